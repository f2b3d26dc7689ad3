/- The value machine: operations, regions, code, calls: all of it, by what the small machine does. No statement of this seat is proved here. -/
import Derived.Test.YthdlkpmhjbaplaaVxF
set_option autoImplicit false
set_option linter.unusedVariables false
namespace Go.Proofs.Ythdlkpmhjbaplaa.Dx
open Go

section
variable {F : Tr Fd} {s : VSt} {K : VSt → VV → Prop}

theorem s_call {f : P} {as : List Opd} (H : wI F (.call f as) s K) : ISem F (.call f as) s K := by
  intro c d g R
  simp only [wI] at H
  cases hx : vovs as s.e with
  | none => simp only [hx] at H
  | some args =>
    simp only [hx] at H
    obtain ⟨s', v, d', x, g', ⟨he, fuel, hrun⟩, R', hw, hxr, E, hK⟩ := H c d g _ R (vovs_sound R.env hx)
    refine ⟨s', v, d', x, g', ⟨fuel, fun n hn k => ?_⟩, R', hw, hxr, E, hK⟩
    show ovsK as d.e (fun vs => callK F (exec F n) c.wm f vs d.e d.nx d.h k) = _
    rw [ovsK_eq, hrun n hn, he]
theorem s_callv {f : Opd} {as : List Opd} (H : wI F (.callv f as) s K) : ISem F (.callv f as) s K := by
  intro c d g R
  simp only [wI] at H
  cases hf : vev f s.e with
  | none => simp only [hf] at H
  | some v =>
    cases v <;> simp only [hf] at H
    rename_i f' cs
    cases hx : vovs as s.e with
    | none => simp only [hx] at H
    | some args =>
      simp only [hx] at H
      obtain ⟨cs', e1, r1⟩ := (vev_sound R.env hf).fn_inv
      obtain ⟨s', v, d', x, g', ⟨he, fuel, hrun⟩, R', hw, hxr, E, hK⟩ := H c d g _ R ((vovs_sound R.env hx).append r1)
      refine ⟨s', v, d', x, g', ⟨fuel, fun n hn k => ?_⟩, R', hw, hxr, E, hK⟩
      show asF (ev f d.e) .fail (fun f cs => ovsK as d.e fun vs => catK vs cs fun vs => callK F (exec F n) c.wm f vs d.e d.nx d.h k) = _
      rw [e1, asF_eq]
      show ovsK as d.e (fun vs => catK vs cs' fun vs => callK F (exec F n) c.wm f' vs d.e d.nx d.h k) = _
      rw [ovsK_eq, catK_eq, hrun n hn, he]

theorem wI_sound {i : Ins} (H : wI F i s K) : ISem F i s K := by
  cases i with
  | mv a => exact s_mv H
  | pick c a b => exact s_pick H
  | al z => exact s_al H
  | bx a => exact s_bx H
  | bld z ps => exact s_bld H
  | bsl len sz z ps => exact s_bsl H
  | ld a => exact s_ld H
  | lda n a => exact s_lda H
  | st n a v => exact s_st H
  | nc a => exact s_nc H
  | bin b x y => exact s_bin H
  | aeq ks neg x y => exact s_aeq H
  | beq neg x y => exact s_beq H
  | isnil neg x => exact s_isnil H
  | neg a => exact s_neg H
  | not a => exact s_not H
  | cv k a => exact s_cv H
  | mfn f cs => exact s_mfn H
  | fa o a => exact s_fa H
  | fi o a => exact s_fi H
  | fia o n a => exact s_fia H
  | ia sz a i => exact s_ia H
  | msl sz bt z len cap => exact s_msl H
  | sla sz x lo hi mx => exact s_sla H
  | ex a i => exact s_ex H
  | call f as => exact s_call H
  | callv f as => exact s_callv H
  | len a => exact s_len H
  | cap a => exact s_cap H
  | app sz bt s x => exact s_app H
  | mx a l => exact s_mx H
  | mn a l => exact s_mn H
  | apz sz bt z s n => exact s_apz H
  | clr sz z a => exact s_clr H
  | shr x y => exact s_shr H
  | bad => exact H.elim
end

section
variable {F : Tr Fd}

def OSem (F : Tr Fd) (o : Op) (s : VSt) (K : VSt → Prop) : Prop :=
  ∀ (c : Ctx) (d : DS) (g : Gh), RS c s d g → ∃ s' d' g', ORun F o c d d' ∧ RS c s' d' g' ∧ s'.w = s.w ∧ EvoS s d g s' d' g' ∧ K s'

theorem vput_env {Z : P → Prop} {h : Hp} {M : Option MM} {s : VSt} {e : Env} {v : VV} {x : DV} (hE : EnvR Z h M s.e e) (hx : XR Z h M v x) (dst : Option P) : EnvR Z h M (vput dst v s).e (dstE dst x e) := by
  cases dst with
  | none => exact hE
  | some p => exact hE.set hx
theorem vput_nx (dst : Option P) (v : VV) (s : VSt) : (vput dst v s).nx = s.nx ∧ (vput dst v s).h = s.h ∧ (vput dst v s).w = s.w := by cases dst <;> exact ⟨rfl, rfl, rfl⟩
theorem RS.put {c : Ctx} {s : VSt} {d : DS} {g : Gh} (R : RS c s d g) {v : VV} {x : DV} (hx : XR g.Z d.h (mm s.nx s.h g) v x) (dst : Option P) : RS c (vput dst v s) ⟨dstE dst x d.e, d.nx, d.h⟩ g := by
  obtain ⟨h1, h2, h3⟩ := vput_nx dst v s
  refine ⟨?_, ?_⟩
  · rw [h1, h2]; exact vput_env R.env hx dst
  · rw [h1, h2, h3]; exact R.hp
theorem Evo.put {s : VSt} {d : DS} {g : Gh} {s' : VSt} {d' : DS} {g' : Gh} (E : EvoS s d g s' d' g') (dst : Option P) (v : VV) (e : Env) : EvoS s d g (vput dst v s') ⟨e, d'.nx, d'.h⟩ g' := by
  obtain ⟨h1, h2, _⟩ := vput_nx dst v s'
  show Evo _ _ _ _ _ (vput dst v s').nx (vput dst v s').h _ _ _
  rw [h1, h2]; exact E

theorem opRun_sound {dst : Option P} {i : Ins} {s : VSt} {K : VSt → Prop} (H : wI F i s fun s' v => K (vput dst v s')) (c : Ctx) (d : DS) (g : Gh) (R : RS c s d g) :
    ∃ s' d' g', (∃ fuel, ∀ n, fuel ≤ n → ∀ k : Ko, opRun dst i F (exec F n) c.wm d.e d.nx d.h k = k d'.e d'.nx d'.h) ∧ RS c s' d' g' ∧ s'.w = s.w ∧ EvoS s d g s' d' g' ∧ K s' := by
  obtain ⟨s', v, d', x, g', ⟨fuel, hrun⟩, R', hw, hx, E, hK⟩ := wI_sound H c d g R
  refine ⟨vput dst v s', ⟨dstE dst x d'.e, d'.nx, d'.h⟩, g', ⟨fuel, fun n hn k => ?_⟩, R'.put hx dst, ?_, E.put dst v _, hK⟩
  · show insK i F (exec F n) c.wm d.e d.nx d.h (fun e v nx h => opDst dst v e fun e => k e nx h) = _
    rw [hrun n hn, opDst_eq]
  · rw [(vput_nx dst v s').2.2]; exact hw

theorem wO_sound {o : Op} {s : VSt} {K : VSt → Prop} (H : wO F o s K) : OSem F o s K := by
  intro c d g R
  cases o with
  | mk dst gd i =>
    cases gd with
    | none => exact opRun_sound H c d g R
    | some pb =>
      obtain ⟨p, b⟩ := pb
      simp only [wO] at H
      cases hp : vev (.t p) s.e with
      | none => simp only [hp] at H
      | some v =>
        have hx : XR g.Z d.h (mm s.nx s.h g) v (evT p d.e) := vev_sound (o := .t p) R.env hp
        cases v <;> simp only [hp] at H
        case bool t =>
          have e1 := hx.bool_inv
          have hpp : ∃ y, Tr.get? p d.e = some y ∧ y = .bool t := by
            simp only [vev] at hp
            cases h1 : Tr.get? p s.e with
            | none => simp only [h1, reduceCtorEq] at hp
            | some u =>
              simp only [h1, Option.some.injEq] at hp
              obtain ⟨y, hy, hxy⟩ := R.env.get h1
              cases u <;> simp only [vplace, reduceCtorEq] at hp
              rw [hp] at hxy
              exact ⟨y, hy, hxy.bool_inv⟩
          obtain ⟨y, hy, rfl⟩ := hpp
          have run : ∀ (n : Nat) (k : Ko), opK (.mk dst (some (p, b)) i) F (exec F n) c.wm d.e d.nx d.h k = opGt dst i F (exec F n) c.wm d.e d.nx d.h k b t := by
            intro n k
            show asB (evT p d.e) (asT (evT p d.e) .fail (opGn dst d.e d.nx d.h k)) (opGt dst i F (exec F n) c.wm d.e d.nx d.h k b) = _
            rw [e1, asB_eq]
          have hset : Tr.set p d.e (some (.bool t)) = d.e ∨ True := .inr trivial
          by_cases hb : t = b
          · subst hb
            -- the slot reads as it did
            have R1 : RS c ⟨Tr.set p s.e (some (.bool t)), s.nx, s.w, s.h⟩ d g := by
              refine ⟨fun q => ?_, R.hp⟩
              show match Tr.get? q (Tr.set p s.e (some (.bool t))), Tr.get? q d.e with | none, none => True | some v, some x => XR g.Z d.h (mm s.nx s.h g) v x | _, _ => False
              rw [Tr.get_set]
              by_cases hq : q = p
              · subst hq; rw [if_pos rfl, hy]; exact .bool _
              · rw [if_neg hq]; exact R.env q
            obtain ⟨s', d', g', ⟨fuel, hrun⟩, R', hw, E, hK⟩ := opRun_sound (H.1 rfl) c d g R1
            refine ⟨s', d', g', ⟨fuel, fun n hn k => ?_⟩, R', hw, E, hK⟩
            rw [run]
            show Bool.rec (motive := fun _ => Res) (opSkip dst d.e d.nx d.h k) (opRun dst i F (exec F n) c.wm d.e d.nx d.h k) (beqB t t) = _
            have : beqB t t = true := by cases t <;> rfl
            rw [this]; exact hrun n hn k
          · have hbt : t = !b := by cases t <;> cases b <;> first | rfl | exact absurd rfl hb
            have R1 : RS c ⟨Tr.set p s.e (some (.bool !b)), s.nx, s.w, s.h⟩ d g := by
              refine ⟨fun q => ?_, R.hp⟩
              show match Tr.get? q (Tr.set p s.e (some (.bool !b))), Tr.get? q d.e with | none, none => True | some v, some x => XR g.Z d.h (mm s.nx s.h g) v x | _, _ => False
              rw [Tr.get_set]
              by_cases hq : q = p
              · subst hq; rw [if_pos rfl, hy, hbt]; exact .bool _
              · rw [if_neg hq]; exact R.env q
            refine ⟨_, ⟨dstE dst (.tup []) d.e, d.nx, d.h⟩, g, ⟨0, fun n hn k => ?_⟩, R1.put (.tup .nil) dst, ?_, Evo.put (s := s) (d := d) (s' := ⟨Tr.set p s.e (some (.bool !b)), s.nx, s.w, s.h⟩) (d' := d) (Evo.refl _ _ _ _ _) dst _ _, H.2 hbt⟩
            · rw [run]
              show Bool.rec (motive := fun _ => Res) (opSkip dst d.e d.nx d.h k) (opRun dst i F (exec F n) c.wm d.e d.nx d.h k) (beqB t b) = _
              have : beqB t b = false := by rw [hbt]; cases b <;> rfl
              rw [this]
              show opDst dst (.tup []) d.e (fun e => k e d.nx d.h) = _
              rw [opDst_eq]
            · rw [(vput_nx dst _ _).2.2]
        case tup l =>
          cases l with
          | cons _ _ => simp only at H
          | nil =>
            simp only at H
            obtain ⟨l', e1, r1⟩ := hx.tup_inv
            cases r1
            refine ⟨_, ⟨dstE dst (.tup []) d.e, d.nx, d.h⟩, g, ⟨0, fun n hn k => ?_⟩, R.put (.tup .nil) dst, ?_, Evo.put (Evo.refl _ _ _ _ _) dst _ _, H⟩
            · show asB (evT p d.e) (asT (evT p d.e) .fail (opGn dst d.e d.nx d.h k)) (opGt dst i F (exec F n) c.wm d.e d.nx d.h k b) = _
              rw [e1, asB_eq, asT_eq]
              show opDst dst (.tup []) d.e (fun e => k e d.nx d.h) = _
              rw [opDst_eq]
            · rw [(vput_nx dst _ _).2.2]
  | loc p z =>
    simp only [wO] at H
    cases hz : ofDVs z with
    | none => simp only [hz] at H
    | some l =>
      simp only [hz] at H
      refine ⟨⟨Tr.set p s.e (some (.var l)), s.nx, s.w, s.h⟩, ⟨Tr.set p d.e (some (.var z)), d.nx, d.h⟩, g, ⟨0, fun n hn k => ?_⟩, ⟨R.env.set (.var (ofDVs_sound hz)), R.hp⟩, rfl, Evo.refl _ _ _ _ _, H.2⟩
      show notVar p d.e (fun _ => Tr.setK p d.e (some (.var z)) fun e => k e d.nx d.h) = _
      rw [notVar_eq, if_neg, Tr.setK_eq]
      rintro ⟨l', hl'⟩
      have := R.env p
      rw [hl'] at this
      have h0 := H.1
      unfold isVarV at h0
      cases h1 : Tr.get? p s.e with
      | none => rw [h1] at this; exact this
      | some u =>
        rw [h1] at this h0
        cases this
        case unk hd => exact hd
        case ow _ hd _ => rcases hd with h | ⟨k, o, n, c, s, h⟩ <;> cases h
        case pt _ hd _ => obtain ⟨k, o, h⟩ := hd; cases h
        case os _ hd _ => rcases hd with h | ⟨k, o, n, c, s, h⟩ <;> cases h
        case var => cases h0
  | locb p a =>
    simp only [wO] at H
    cases hv : vov a s.e with
    | none => simp only [hv] at H
    | some v =>
      simp only [hv] at H
      cases hc : vcells v with
      | none => simp only [hc] at H
      | some l =>
        simp only [hc] at H
        obtain ⟨l', h1, h2⟩ := vcells_sound (vov_sound R.env hv) hc
        refine ⟨⟨Tr.set p s.e (some (.var l)), s.nx, s.w, s.h⟩, ⟨Tr.set p d.e (some (.var l')), d.nx, d.h⟩, g, ⟨0, fun n hn k => ?_⟩, ⟨R.env.set (.var h2), R.hp⟩, rfl, Evo.refl _ _ _ _ _, H.2⟩
        show notVar p d.e (fun _ => ovK a d.e fun v => cellsK v .fail fun l => Tr.setK p d.e (some (.var l)) fun e => k e d.nx d.h) = _
        rw [notVar_eq, if_neg, ovK_eq, cellsK_eq, h1]
        · show Tr.setK p d.e (some (.var l')) (fun e => k e d.nx d.h) = _
          rw [Tr.setK_eq]
        · rintro ⟨l', hl'⟩
          have := R.env p
          rw [hl'] at this
          have h0 := H.1
          unfold isVarV at h0
          cases h1 : Tr.get? p s.e with
          | none => rw [h1] at this; exact this
          | some u =>
            rw [h1] at this h0
            cases this
            case unk hd => exact hd
            case ow _ hd _ => rcases hd with h | ⟨k, o, n, c, s, h⟩ <;> cases h
            case pt _ hd _ => obtain ⟨k, o, h⟩ := hd; cases h
            case os _ hd _ => rcases hd with h | ⟨k, o, n, c, s, h⟩ <;> cases h
            case var => cases h0

theorem wOs_sound : ∀ {l : List Op} {s : VSt} {K : VSt → Prop}, wOs F l s K → ∀ (c : Ctx) (d : DS) (g : Gh), RS c s d g →
    ∃ s' d' g', (∃ fuel, ∀ n, fuel ≤ n → ∀ k : Ko, opsK l F (exec F n) c.wm d.e d.nx d.h k = k d'.e d'.nx d'.h) ∧ RS c s' d' g' ∧ s'.w = s.w ∧ EvoS s d g s' d' g' ∧ K s'
  | [], s, K, H, c, d, g, R => ⟨s, d, g, ⟨0, fun n _ k => rfl⟩, R, rfl, Evo.refl _ _ _ _ _, H⟩
  | o :: l, s, K, H, c, d, g, R => by
    obtain ⟨s1, d1, g1, ⟨f1, r1⟩, R1, hw1, E1, H1⟩ := wO_sound (o := o) H c d g R
    obtain ⟨s2, d2, g2, ⟨f2, r2⟩, R2, hw2, E2, H2⟩ := wOs_sound H1 c d1 g1 R1
    refine ⟨s2, d2, g2, ⟨max f1 f2, fun n hn k => ?_⟩, R2, hw2.trans hw1, E1.trans E2, H2⟩
    show opK o F (exec F n) c.wm d.e d.nx d.h (fun e nx h => opsK l F (exec F n) c.wm e nx h k) = _
    rw [r1 n (by omega), r2 n (by omega)]

/-! ### Regions whose order is open -/

theorem vuse_sound {Z : P → Prop} {h : Hp} {M : Option MM} {c : Bool} {e : VEnv} {d : Env} (x : EnvR Z h M e d) : ∀ (l : List P) {acc : VEnv} {acc' : Env}, EnvR Z h M acc acc' → EnvR Z h M (vuse c e l acc) (use c d l acc')
  | [], _, _, a => a
  | p :: l, acc, acc', a => by
    refine vuse_sound x l ?_
    unfold vuseP useP
    have hp := x p
    cases h1 : Tr.get? p e with
    | none =>
      rw [x.get_none h1]
      exact a
    | some v =>
      obtain ⟨y, hy, hxy⟩ := x.get h1
      rw [hy]
      have noV : ∀ {v : VV} {y : DV}, XR Z h M v y → (∀ l, v ≠ .var l) → (∀ p o, v ≠ .fld p o) → EnvR Z h M (Tr.set p acc (some (match c with | true => v | false => vbare v)))
          (match (some y : Option DV) with | none => acc' | some (.fld q o) => (match Tr.get? q acc' with | some (.var _) => Tr.set p acc' (some (.fld q o)) | _ => acc') | some v => Tr.set p acc' (some (match c with | true => v | false => bareV v))) := by
        intro v y hxy hv hf
        have hpl := hxy.plain hv hf
        have e1 : (match c with | true => v | false => vbare v) = v := by
          cases c
          · show vbare v = v
            cases v <;> first | rfl | exact absurd rfl (hv _)
          · rfl
        rw [e1]
        cases y <;> first | exact hpl.elim | skip
        all_goals cases c <;> exact a.set hxy
      cases v
      case fld q o =>
        cases hxy.fld_inv
        show EnvR Z h M (match Tr.get? q acc with | some (.var _) => Tr.set p acc (some (.fld q o)) | _ => acc) (match Tr.get? q acc' with | some (.var _) => Tr.set p acc' (some (.fld q o)) | _ => acc')
        cases h2 : Tr.get? q acc with
        | none => rw [a.get_none h2]; exact a
        | some u =>
          obtain ⟨z, hz, hzz⟩ := a.get h2
          rw [hz]
          cases u
          case var l => obtain ⟨l', rfl, _⟩ := hzz.var_inv; exact a.set (.fld q o)
          case fld _ _ => cases hzz.fld_inv; exact a
          all_goals
            have hnv : ∀ l, z ≠ .var l := by
              rintro l rfl
              exact hzz.plain (fun _ h => by cases h) (fun _ _ h => by cases h)
            cases z <;> first | exact a | exact absurd rfl (hnv _)
      case var l =>
        obtain ⟨l', rfl, hl⟩ := hxy.var_inv
        cases c
        · exact a.set (.var .nil)
        · exact a.set (.var hl)
      all_goals exact noV hxy (fun _ h => by cases h) (fun _ _ h => by cases h)
theorem vback_sound {Z : P → Prop} {h : Hp} {M : Option MM} {r : VEnv} {r' : Env} (x : EnvR Z h M r r') : ∀ (l : List P) {e : VEnv} {e' : Env}, EnvR Z h M e e' → EnvR Z h M (vback r l e) (back r' l e')
  | [], _, _, a => a
  | p :: l, e, e', a => by
    refine vback_sound x l ?_
    unfold vbackP backP
    cases h1 : Tr.get? p r with
    | none => rw [x.get_none h1]; exact a
    | some v =>
      obtain ⟨y, hy, hxy⟩ := x.get h1
      rw [hy]; exact a.set hxy
theorem vkeep_sound {Z : P → Prop} {h : Hp} {M : Option MM} {e : VEnv} {d : Env} (x : EnvR Z h M e d) : ∀ (l : List P) {acc : VEnv} {acc' : Env}, EnvR Z h M acc acc' → EnvR Z h M (vkeep e l acc) (keep d l acc')
  | [], _, _, a => a
  | p :: l, acc, acc', a => by
    simp only [vkeep, keep]
    cases h1 : Tr.get? p e with
    | none => rw [x.get_none h1]; exact vkeep_sound x l a
    | some v =>
      obtain ⟨y, hy, hxy⟩ := x.get h1
      rw [hy]
      cases v
      case fld q o => cases hxy.fld_inv; exact vkeep_sound x l a
      case var l0 => obtain ⟨l', rfl, hl⟩ := hxy.var_inv; exact vkeep_sound x l (a.set (.var hl))
      all_goals
        have hpl := hxy.plain (fun _ h => by cases h) (fun _ _ h => by cases h)
        cases y <;> first | exact vkeep_sound x l (a.set hxy) | exact hpl.elim

theorem HpR.wmv {c : Ctx} {nx w w' : Nat} {vh : VHp} {dnx : P} {dh : Hp} {g : Gh} {wm : Option P} (R : HpR c nx w vh dnx dh g)
    (h1 : ∀ m, wm = some m → m.n ≤ dnx.n) (h2 : ∀ k o r b q, hget vh k = some o → g.μ k = some r → refAt r = some (b, q) → w' ≤ k → ∀ m, wm = some m → m.n ≤ b.n) : HpR { c with wm := wm } nx w' vh dnx dh g where
  blk := R.blk
  own := fun k o r b q hk hr hb => ⟨(R.own k o r b q hk hr hb).1, (R.own k o r b q hk hr hb).2.1, h2 k o r b q hk hr hb⟩
  inj := R.inj
  zlt := R.zlt
  zold := R.zold
  top := R.top
  keep := R.keep
  le := R.le
  wm := h1
  wf := R.wf

theorem wDr_sound {x : Dop} {s : VSt} {K : VSt → Prop} (H : wDr F x s K) (c : Ctx) (d : DS) (g : Gh) (hc : c.wm = c.wm0) (R : RS c s d g) :
    ∃ s' d' g', (∃ fuel, ∀ n, fuel ≤ n → ∀ k : Ko, dopK x F (exec F n) c.wm d.e d.nx d.h k = k d'.e d'.nx d'.h) ∧ RS c s' d' g' ∧ s'.w = s.w ∧ EvoS s d g s' d' g' ∧ K s' := by
  cases x with
  | mk cb u b r o =>
    simp only [wDr] at H
    have R1 : RS { c with wm := wmOf r d.nx c.wm } ⟨vuse cb s.e u .nl, s.nx, wOf r s.nx s.w, s.h⟩ ⟨use cb d.e u .nl, d.nx, d.h⟩ g := by
      refine ⟨vuse_sound R.env u EnvR.nl, ?_⟩
      cases r with
      | false => exact R.hp
      | true =>
        refine R.hp.wmv (wm := some d.nx) (fun m h => by cases h; exact Nat.le_refl _) (fun k o r b q hk hr hb hw => ?_)
        have := (R.hp.blk k o hk).1
        exact absurd hw (by show ¬ s.nx ≤ k; omega)
    obtain ⟨s1, d1, g1, ⟨f1, r1⟩, R2, hw, E, hK⟩ := wO_sound H _ _ g R1
    refine ⟨⟨vback s1.e b s.e, s1.nx, s.w, s1.h⟩, ⟨back d1.e b d.e, d1.nx, d1.h⟩, g1, ⟨f1, fun n hn k => ?_⟩, ⟨vback_sound R2.env b (E.env R.env), ?_⟩, rfl, E, hK⟩
    · show useK cb u d.e .nl (fun r0 => opK o F (exec F n) (wmOf r d.nx c.wm) r0 d.nx d.h fun r1 nx h => backK b r1 d.e fun e => k e nx h) = _
      rw [useK_eq, r1 n hn, backK_eq]
    · have := R2.hp.wmv (wm := c.wm) (w' := s.w) (fun m hm => Nat.le_trans (R.hp.wm m hm) E.nx) (fun k o' r' b' q hk hr hb hw' m hm => ?_)
      · exact this
      · have h1 := R.hp.wf m (by rw [← hc]; exact hm)
        rcases (R2.hp.own k o' r' b' q hk hr hb).2.1 with h2 | h2
        · exact Nat.le_trans h1.1 h2
        · exact h1.2 _ h2

theorem wDg_sound {x : Dop} {s : VSt} {p : P} {gd : Bool} {K : VSt → Prop} (H : wDg F x s p gd K) (c : Ctx) (d : DS) (g : Gh) (hc : c.wm = c.wm0) (R : RS c s d g) :
    ∃ s' d' g', (∃ fuel, ∀ n, fuel ≤ n → ∀ k : Ko, dopK x F (exec F n) c.wm d.e d.nx d.h k = k d'.e d'.nx d'.h) ∧ RS c s' d' g' ∧ s'.w = s.w ∧ EvoS s d g s' d' g' ∧ K s' := by
  unfold wDg at H
  cases hp : vev (.t p) s.e with
  | none => simp only [hp] at H; exact wDr_sound H c d g hc R
  | some v =>
    cases v <;> simp only [hp] at H <;> try exact wDr_sound H c d g hc R
    rename_i t
    obtain ⟨u, hu, huv⟩ : ∃ u, Tr.get? p s.e = some u ∧ u = .bool t := by
      simp only [vev] at hp
      cases h1 : Tr.get? p s.e with
      | none => simp only [h1, reduceCtorEq] at hp
      | some u =>
        simp only [h1, Option.some.injEq] at hp
        refine ⟨u, rfl, ?_⟩
        cases u <;> simp only [vplace, reduceCtorEq] at hp
        exact hp
    subst huv
    have R1 : ∀ b, t = b → RS c ⟨Tr.set p s.e (some (.bool b)), s.nx, s.w, s.h⟩ d g := by
      rintro b rfl
      refine ⟨fun q => ?_, R.hp⟩
      show match Tr.get? q (Tr.set p s.e (some (.bool t))), Tr.get? q d.e with | none, none => True | some v, some x => XR g.Z d.h (mm s.nx s.h g) v x | _, _ => False
      rw [Tr.get_set]
      by_cases hq : q = p
      · subst hq; rw [if_pos rfl]; have := R.env q; rw [hu] at this; exact this
      · rw [if_neg hq]; exact R.env q
    by_cases hb : t = gd
    · exact wDr_sound (H.1 hb) c d g hc (R1 gd hb)
    · have hbt : t = !gd := by cases t <;> cases gd <;> first | rfl | exact absurd rfl hb
      exact wDr_sound (H.2 hbt) c d g hc (R1 (!gd) hbt)
theorem wD_sound {x : Dop} {s : VSt} {K : VSt → Prop} (H : wD F x s K) (c : Ctx) (d : DS) (g : Gh) (hc : c.wm = c.wm0) (R : RS c s d g) :
    ∃ s' d' g', (∃ fuel, ∀ n, fuel ≤ n → ∀ k : Ko, dopK x F (exec F n) c.wm d.e d.nx d.h k = k d'.e d'.nx d'.h) ∧ RS c s' d' g' ∧ s'.w = s.w ∧ EvoS s d g s' d' g' ∧ K s' := by
  cases x with
  | mk cb u b r o =>
    cases o with
    | mk dst gd i =>
      cases gd with
      | none => exact wDr_sound (x := .mk cb u b r (.mk dst none i)) H c d g hc R
      | some pg => obtain ⟨p, b0⟩ := pg; exact wDg_sound H c d g hc R
    | loc p z => exact wDr_sound (x := .mk cb u b r (.loc p z)) H c d g hc R
    | locb p a => exact wDr_sound (x := .mk cb u b r (.locb p a)) H c d g hc R

theorem wDs_sound : ∀ {l : List Dop} {s : VSt} {K : VSt → Prop}, wDs F l s K → ∀ (c : Ctx) (d : DS) (g : Gh), c.wm = c.wm0 → RS c s d g →
    ∃ s' d' g', (∃ fuel, ∀ n, fuel ≤ n → ∀ k : Ko, dopsK l F (exec F n) c.wm d.e d.nx d.h k = k d'.e d'.nx d'.h) ∧ RS c s' d' g' ∧ s'.w = s.w ∧ EvoS s d g s' d' g' ∧ K s'
  | [], s, K, H, c, d, g, hc, R => ⟨s, d, g, ⟨0, fun n _ k => rfl⟩, R, rfl, Evo.refl _ _ _ _ _, H⟩
  | o :: l, s, K, H, c, d, g, hc, R => by
    obtain ⟨s1, d1, g1, ⟨f1, r1⟩, R1, hw1, E1, H1⟩ := wD_sound (x := o) H c d g hc R
    obtain ⟨s2, d2, g2, ⟨f2, r2⟩, R2, hw2, E2, H2⟩ := wDs_sound H1 c d1 g1 hc R1
    refine ⟨s2, d2, g2, ⟨max f1 f2, fun n hn k => ?_⟩, R2, hw2.trans hw1, E1.trans E2, H2⟩
    show dopK o F (exec F n) c.wm d.e d.nx d.h (fun e nx h => dopsK l F (exec F n) c.wm e nx h k) = _
    rw [r1 n (by omega), r2 n (by omega)]

/-! ### Code -/

theorem wC_sound : ∀ {cd : C} {s : VSt} {K : Out → VSt → Prop}, wC F cd s K → CSem F cd s K := by
  intro cd
  induction cd with
  | skip => intro s K H c d g hc R; exact ⟨.norm, s, d, g, ⟨0, fun n _ => rfl⟩, R, rfl, Evo.refl _ _ _ _ _, H⟩
  | exit id => intro s K H c d g hc R; exact ⟨.exit id, s, d, g, ⟨0, fun n _ => rfl⟩, R, rfl, Evo.refl _ _ _ _ _, H⟩
  | ret => intro s K H c d g hc R; exact ⟨.ret, s, d, g, ⟨0, fun n _ => rfl⟩, R, rfl, Evo.refl _ _ _ _ _, H⟩
  | reg l =>
    intro s K H c d g hc R
    obtain ⟨s1, d1, g1, ⟨f1, r1⟩, R1, hw1, E1, H1⟩ := wOs_sound (l := l) H c d g R
    exact ⟨.norm, s1, d1, g1, ⟨f1, fun n hn => r1 n hn okN⟩, R1, hw1, E1, H1⟩
  | drw l =>
    intro s K H c d g hc R
    obtain ⟨s1, d1, g1, ⟨f1, r1⟩, R1, hw1, E1, H1⟩ := wDs_sound (l := l) H c d g hc R
    exact ⟨.norm, s1, d1, g1, ⟨f1, fun n hn => r1 n hn okN⟩, R1, hw1, E1, H1⟩
  | seq a b iha ihb =>
    intro s K H c d g hc R
    obtain ⟨o1, s1, d1, g1, ⟨f1, r1⟩, R1, hw1, E1, H1⟩ := iha (K := fun o s' => match o with | .norm => wC F b s' K | .exit i => K (.exit i) s' | .ret => K .ret s') H c d g hc R
    have run : ∀ n, f1 ≤ n → step (.seq a b) F (exec F n) c.wm d.e d.nx d.h = sqO (step b) F (exec F n) c.wm o1 d1.e d1.nx d1.h := by
      intro n hn
      show Res.rec (motive := fun _ => Res) .fail (sqO (step b) F (exec F n) c.wm) (step a F (exec F n) c.wm d.e d.nx d.h) = _
      rw [r1 n hn]
    cases o1 with
    | norm =>
      obtain ⟨o2, s2, d2, g2, ⟨f2, r2⟩, R2, hw2, E2, H2⟩ := ihb H1 c d1 g1 hc R1
      exact ⟨o2, s2, d2, g2, ⟨max f1 f2, fun n hn => by rw [run n (by omega)]; exact r2 n (by omega)⟩, R2, hw2.trans hw1, E1.trans E2, H2⟩
    | exit id => exact ⟨.exit id, s1, d1, g1, ⟨f1, fun n hn => by rw [run n hn]; rfl⟩, R1, hw1, E1, H1⟩
    | ret => exact ⟨.ret, s1, d1, g1, ⟨f1, fun n hn => by rw [run n hn]; rfl⟩, R1, hw1, E1, H1⟩
  | cond cc a b iha ihb =>
    intro s K H c d g hc R
    simp only [wC] at H
    cases hx : vev cc s.e with
    | none => simp only [hx] at H
    | some v =>
      cases v <;> simp only [hx] at H
      rename_i t
      have e1 := (vev_sound R.env hx).bool_inv
      have run : ∀ n, step (.cond cc a b) F (exec F n) c.wm d.e d.nx d.h = cdB (step a) (step b) F (exec F n) c.wm d.e d.nx d.h t := by
        intro n
        show asB (ev cc d.e) .fail (cdB (step a) (step b) F (exec F n) c.wm d.e d.nx d.h) = _
        rw [e1, asB_eq]
      cases t with
      | true =>
        obtain ⟨o1, s1, d1, g1, ⟨f1, r1⟩, R1, hw1, E1, H1⟩ := iha (H.1 rfl) c d g hc R
        exact ⟨o1, s1, d1, g1, ⟨f1, fun n hn => by rw [run]; exact r1 n hn⟩, R1, hw1, E1, H1⟩
      | false =>
        obtain ⟨o1, s1, d1, g1, ⟨f1, r1⟩, R1, hw1, E1, H1⟩ := ihb (H.2 rfl) c d g hc R
        exact ⟨o1, s1, d1, g1, ⟨f1, fun n hn => by rw [run]; exact r1 n hn⟩, R1, hw1, E1, H1⟩
  | block id a iha =>
    intro s K H c d g hc R
    obtain ⟨o1, s1, d1, g1, ⟨f1, r1⟩, R1, hw1, E1, H1⟩ := iha (K := fun o s' => match o with | .norm => K .norm s' | .exit i => if i = id then K .norm s' else K (.exit i) s' | .ret => K .ret s') H c d g hc R
    have run : ∀ n, f1 ≤ n → step (.block id a) F (exec F n) c.wm d.e d.nx d.h = bkO id o1 d1.e d1.nx d1.h := by
      intro n hn
      show Res.rec (motive := fun _ => Res) .fail (bkO id) (step a F (exec F n) c.wm d.e d.nx d.h) = _
      rw [r1 n hn]
    cases o1 with
    | norm => exact ⟨.norm, s1, d1, g1, ⟨f1, fun n hn => by rw [run n hn]; rfl⟩, R1, hw1, E1, H1⟩
    | exit i =>
      simp only at H1
      by_cases hi : i = id
      · rw [if_pos hi] at H1
        refine ⟨.norm, s1, d1, g1, ⟨f1, fun n hn => ?_⟩, R1, hw1, E1, H1⟩
        rw [run n hn]
        show Bool.rec (motive := fun _ => Res) (.ok (.exit i) d1.e d1.nx d1.h) (.ok .norm d1.e d1.nx d1.h) (Nat.beq i id) = _
        rw [show Nat.beq i id = true by rw [Nat.beq_eq]; exact hi]
      · rw [if_neg hi] at H1
        refine ⟨.exit i, s1, d1, g1, ⟨f1, fun n hn => ?_⟩, R1, hw1, E1, H1⟩
        rw [run n hn]
        show Bool.rec (motive := fun _ => Res) (.ok (.exit i) d1.e d1.nx d1.h) (.ok .norm d1.e d1.nx d1.h) (Nat.beq i id) = _
        have : Nat.beq i id = false := by
          cases h : Nat.beq i id with
          | false => rfl
          | true => rw [Nat.beq_eq] at h; exact absurd h hi
        rw [this]
    | ret => exact ⟨.ret, s1, d1, g1, ⟨f1, fun n hn => by rw [run n hn]; rfl⟩, R1, hw1, E1, H1⟩
  | loop lv a iha => intro s K H; exact H

/-- A loop: 'J n s': what holds at its head, with at most so many rounds to come. -/
theorem wLoop_of {lv : List P} {a : C} {s : VSt} {K : Out → VSt → Prop} (J : Nat → VSt → Prop) (n : Nat) (h0 : J n s)
    (hstep : ∀ n s, J n s → wC F a ⟨vkeep s.e lv .nl, s.nx, s.w, s.h⟩ (fun o s' => match o with | .norm => ∃ m, m < n ∧ J m s' | .exit i => K (.exit i) s' | .ret => K .ret s')) : wLoop F lv a s K := by
  induction n using Nat.strongRecOn generalizing s with
  | _ n ih =>
    intro c d g hc R
    have R0 : RS c ⟨vkeep s.e lv .nl, s.nx, s.w, s.h⟩ ⟨keep d.e lv .nl, d.nx, d.h⟩ g := ⟨vkeep_sound R.env lv EnvR.nl, R.hp⟩
    obtain ⟨o1, s1, d1, g1, ⟨f1, r1⟩, R1, hw1, E1, H1⟩ := wC_sound (hstep n s h0) c _ g hc R0
    have run : ∀ m, f1 ≤ m → step (.loop lv a) F (exec F m) c.wm d.e d.nx d.h = lpO (.loop lv a) F (exec F m) c.wm o1 d1.e d1.nx d1.h := by
      intro m hm
      show keepK lv d.e .nl (fun e => Res.rec (motive := fun _ => Res) .fail (lpO (.loop lv a) F (exec F m) c.wm) (step a F (exec F m) c.wm e d.nx d.h)) = _
      rw [keepK_eq, r1 m hm]
    cases o1 with
    | norm =>
      obtain ⟨m, hm, hJ⟩ := H1
      obtain ⟨o2, s2, d2, g2, ⟨f2, r2⟩, R2, hw2, E2, H2⟩ := ih m hm hJ c d1 g1 hc R1
      refine ⟨o2, s2, d2, g2, ⟨max f1 (f2 + 1), fun n hn => ?_⟩, R2, hw2.trans hw1, E1.trans E2, H2⟩
      rw [run n (by omega)]
      obtain ⟨n', rfl⟩ : ∃ n', n = n' + 1 := ⟨n - 1, by omega⟩
      exact r2 n' (by omega)
    | exit i => exact ⟨.exit i, s1, d1, g1, ⟨f1, fun n hn => by rw [run n hn]; rfl⟩, R1, hw1, E1, H1⟩
    | ret => exact ⟨.ret, s1, d1, g1, ⟨f1, fun n hn => by rw [run n hn]; rfl⟩, R1, hw1, E1, H1⟩

end
end Go.Proofs.Ythdlkpmhjbaplaa.Dx

/- The value machine: functions and calls. No statement of this seat is proved here. -/
set_option autoImplicit false
set_option linter.unusedVariables false
namespace Go.Proofs.Ythdlkpmhjbaplaa.Dx
open Go

noncomputable section
def vbinds : List P → List VV → VEnv → Option VEnv
  | [], [], e => some e
  | p :: ps, v :: vs, e => vbinds ps vs (Tr.set p e (some v))
  | _, _, _ => none
def vrs1 (r : Rs) (s : VSt) : Option VV :=
  match r with
  | .t p => vov (.t p) s.e
  | .cell p none => match vev (.t p) s.e with
    | some (.fld q o) => (match Tr.get? q s.e with | some (.var l) => l[o]? | _ => none)
    | some (.pt k m o) => (match live s.h k m with | some ob => ob.cells[o]? | none => none)
    | _ => none
  | .cell p (some n) => match vev (.t p) s.e with
    | some (.fld q o) => (match Tr.get? q s.e with | some (.var l) => if o + n ≤ l.length then some (.agg ((l.drop o).take n)) else none | _ => none)
    | some (.pt k m o) => (match live s.h k m with | some ob => if o + n ≤ ob.cells.length then some (.agg ((ob.cells.drop o).take n)) else none | none => none)
    | _ => none
def vrsL : List Rs → VSt → Option (List VV)
  | [], _ => some []
  | r :: l, s => match vrs1 r s with | some v => (match vrsL l s with | some t => some (v :: t) | none => none) | none => none
def vone (vs : List VV) : VV := match vs with | [v] => v | vs => .tup vs
def vres (rs : List Rs) (s : VSt) : Option VV := match vrsL rs s with | some vs => some (vone vs) | none => none
end

section
variable {Z : P → Prop} {h : Hp} {M : Option MM}
theorem vbinds_sound : ∀ {ps : List P} {vs : List VV} {ds : List DV} {e e' : VEnv} {d : Env}, XRs Z h M vs ds → EnvR Z h M e d → vbinds ps vs e = some e' → ∃ d', binds ps ds d = some d' ∧ EnvR Z h M e' d'
  | [], [], ds, e, e', d, x, hE, H => by
    simp only [vbinds, Option.some.injEq] at H; subst H; cases x; exact ⟨d, rfl, hE⟩
  | p :: ps, v :: vs, ds, e, e', d, x, hE, H => by
    simp only [vbinds] at H
    cases x with
    | cons hv hl => exact vbinds_sound (ps := ps) (vs := vs) hl (hE.set hv) H
  | [], _ :: _, ds, e, e', d, x, hE, H => by simp [vbinds] at H
  | _ :: _, [], ds, e, e', d, x, hE, H => by simp [vbinds] at H
end

theorem vrs1_sound {c : Ctx} {s : VSt} {d : DS} {g : Gh} (R : RS c s d g) {r : Rs} {v : VV} (H : vrs1 r s = some v) : ∃ x, rs1v r d.e d.h = some x ∧ XR g.Z d.h (mm s.nx s.h g) v x := by
  cases r with
  | t p =>
    refine ⟨_, rfl, ?_⟩
    exact vov_sound (o := .t p) R.env H
  | cell p n =>
    have main : ∀ (l : List VV) (l' : List DV) (o : Nat), Dx.look (evT p d.e) d.e d.h = some (l', o) → XRs g.Z d.h (mm s.nx s.h g) l ((l'.drop 0)) → True := fun _ _ _ _ _ => trivial
    cases n with
    | none =>
      simp only [vrs1] at H
      cases hp : vev (.t p) s.e with
      | none => simp only [hp, reduceCtorEq] at H
      | some u =>
        have hx : XR g.Z d.h (mm s.nx s.h g) u (evT p d.e) := vev_sound (o := .t p) R.env hp
        cases u <;> simp only [hp, reduceCtorEq] at H
        case fld q o =>
          cases hq : Tr.get? q s.e with
          | none => simp only [hq, reduceCtorEq] at H
          | some y =>
            cases y <;> simp only [hq, reduceCtorEq] at H
            obtain ⟨z, hz, hzz⟩ := R.env.get hq
            obtain ⟨l', rfl, hl⟩ := hzz.var_inv
            obtain ⟨x, h1, h2⟩ := hl.get _ _ H
            refine ⟨x, ?_, h2⟩
            simp only [rs1v, hx.fld_inv, look_var hz, h1]
        case pt k m o =>
          cases hl : live s.h k m with
          | none => simp only [hl, reduceCtorEq] at H
          | some ob =>
            simp only [hl] at H
            obtain ⟨r, b, q, cells, hxx, e1, e2, e3, e4, e5, e6, e7, e8⟩ := pt_blk R hl hx
            obtain ⟨x, h1, h2⟩ := (VOb.m_any e8).get _ _ H
            refine ⟨x, ?_, h2⟩
            simp only [rs1v, hxx, look_cells e6, cut_get h1]
    | some n =>
      simp only [vrs1] at H
      cases hp : vev (.t p) s.e with
      | none => simp only [hp, reduceCtorEq] at H
      | some u =>
        have hx : XR g.Z d.h (mm s.nx s.h g) u (evT p d.e) := vev_sound (o := .t p) R.env hp
        cases u <;> simp only [hp, reduceCtorEq] at H
        case fld q o =>
          cases hq : Tr.get? q s.e with
          | none => simp only [hq, reduceCtorEq] at H
          | some y =>
            cases y <;> simp only [hq, reduceCtorEq] at H
            rename_i l
            obtain ⟨z, hz, hzz⟩ := R.env.get hq
            obtain ⟨l', rfl, hl⟩ := hzz.var_inv
            have hlen := hl.length
            by_cases hle : o + n ≤ l.length
            · rw [if_pos hle] at H; cases H
              refine ⟨.agg ((l'.drop o).take n), ?_, .agg ((hl.drop o).take n)⟩
              simp only [rs1v, hx.fld_inv, look_var hz]
              rw [if_pos ⟨by omega, by rw [List.length_drop]; omega⟩]
            · rw [if_neg hle] at H; cases H
        case pt k m o =>
          cases hl : live s.h k m with
          | none => simp only [hl, reduceCtorEq] at H
          | some ob =>
            simp only [hl] at H
            obtain ⟨r, b, q, cells, hxx, e1, e2, e3, e4, e5, e6, e7, e8⟩ := pt_blk R hl hx
            by_cases hle : o + n ≤ ob.cells.length
            · rw [if_pos hle] at H; cases H
              refine ⟨.agg ((cells.drop (q + o)).take n), ?_, .agg ?_⟩
              · simp only [rs1v, hxx, look_cells e6]
                rw [if_pos ⟨by omega, by rw [List.length_drop]; omega⟩]
              · have := ((VOb.m_any e8).drop o).take n
                rw [cut_cut _ (by omega)] at this
                exact this
            · rw [if_neg hle] at H; cases H
theorem vrsL_sound {c : Ctx} {s : VSt} {d : DS} {g : Gh} (R : RS c s d g) : ∀ {rs : List Rs} {vs : List VV}, vrsL rs s = some vs → ∃ xs, rsv d.e d.h rs = some xs ∧ XRs g.Z d.h (mm s.nx s.h g) vs xs
  | [], vs, H => by simp only [vrsL, Option.some.injEq] at H; subst H; exact ⟨[], rfl, .nil⟩
  | r :: rs, vs, H => by
    simp only [vrsL] at H
    cases h1 : vrs1 r s with
    | none => simp only [h1, reduceCtorEq] at H
    | some v =>
      simp only [h1] at H
      cases h2 : vrsL rs s with
      | none => simp only [h2, reduceCtorEq] at H
      | some t =>
        simp only [h2, Option.some.injEq] at H; subst H
        obtain ⟨x, h3, h4⟩ := vrs1_sound R h1
        obtain ⟨xs, h5, h6⟩ := vrsL_sound R h2
        exact ⟨x :: xs, by simp only [rsv, h3, h5, Option.map_some], .cons h4 h6⟩
theorem vone_sound {Z : P → Prop} {h : Hp} {M : Option MM} {vs : List VV} {xs : List DV} (x : XRs Z h M vs xs) : XR Z h M (vone vs) (one xs) := by
  cases x with
  | nil => exact .tup .nil
  | cons h1 t1 =>
    cases t1 with
    | nil => exact h1
    | cons h2 t2 => exact .tup (.cons h1 (.cons h2 t2))

/-! ### A function's promise -/

def FSem (F : Tr Fd) (f : P) (args : List VV) (nx : Nat) (h : VHp) (R : VV → Nat → VHp → Prop) : Prop :=
  ∀ (c : Ctx) (dnx : P) (dh : Hp) (g : Gh) (ds : List DV), c.wm = c.wm0 → HpR c nx 0 h dnx dh g → XRs g.Z dh (mm nx h g) args ds →
    ∃ r nx' h' x dnx' dh' g', (∃ fuel, ∀ n, fuel ≤ n → ∀ (e0 : Env) (k : Kv), callK F (exec F n) c.wm f ds e0 dnx dh k = k e0 x dnx' dh') ∧
      HpR c nx' 0 h' dnx' dh' g' ∧ XR g'.Z dh' (mm nx' h' g') r x ∧ Evo nx h dnx dh g nx' h' dnx' dh' g' ∧ R r nx' h'

def retK (rs : List Rs) (R : VV → Nat → VHp → Prop) (o : Out) (s : VSt) : Prop :=
  match o with
  | .exit _ => False
  | _ => match vres rs s with | some r => R r s.nx s.h | none => False

theorem fsem_of_body {F : Tr Fd} {f : P} {ps : List P} {body : C} {rs : List Rs} {args : List VV} {nx : Nat} {h : VHp} {R : VV → Nat → VHp → Prop} {e : VEnv}
    (hf : Tr.get? f F = some (.mk ps body rs)) (he : vbinds ps args .nl = some e) (H : wC F body ⟨e, nx, 0, h⟩ (retK rs R)) : FSem F f args nx h R := by
  intro c dnx dh g ds hc hR hx
  obtain ⟨d, hb, hE⟩ := vbinds_sound hx EnvR.nl he
  obtain ⟨o, s', d', g', ⟨fuel, hrun⟩, R', hw, E, hK⟩ := wC_sound H c ⟨d, dnx, dh⟩ g hc ⟨hE, hR⟩
  have main : ∀ r, vres rs s' = some r → R r s'.nx s'.h → (o = .norm ∨ o = .ret) → ∃ r nx' h' x dnx' dh' g', (∃ fuel, ∀ n, fuel ≤ n → ∀ (e0 : Env) (k : Kv), callK F (exec F n) c.wm f ds e0 dnx dh k = k e0 x dnx' dh') ∧
      HpR c nx' 0 h' dnx' dh' g' ∧ XR g'.Z dh' (mm nx' h' g') r x ∧ Evo nx h dnx dh g nx' h' dnx' dh' g' ∧ R r nx' h' := by
    intro r hr hRr ho
    unfold vres at hr
    cases hv : vrsL rs s' with
    | none => simp only [hv, reduceCtorEq] at hr
    | some vs =>
      simp only [hv, Option.some.injEq] at hr; subst hr
      obtain ⟨xs, h1, h2⟩ := vrsL_sound R' hv
      have hh : s'.w = 0 := hw
      refine ⟨_, s'.nx, s'.h, one xs, d'.nx, d'.h, g', ⟨fuel + 1, fun n hn e0 k => ?_⟩, by have := R'.hp; rw [hh] at this; exact this, vone_sound h2, E, hRr⟩
      obtain ⟨n, rfl⟩ : ∃ m, n = m + 1 := ⟨n - 1, by omega⟩
      show Option.rec (motive := fun _ => Res) .fail (callF (exec F (n + 1)) c.wm ds e0 dnx dh k) (Tr.get? f F) = _
      rw [hf]
      show bindK ps ds .nl (fun e => retR (exec F (n + 1) body c.wm e dnx dh) rs e0 k) = _
      rw [bindK_eq, hb]
      show retR (step body F (exec F n) c.wm d dnx dh) rs e0 k = _
      rw [hrun n (by omega)]
      have : retE rs e0 k d'.e d'.nx d'.h = k e0 (one xs) d'.nx d'.h := by
        show rsL rs d'.e d'.h (fun vs => oneK vs fun v => fV v fun v => k e0 v d'.nx d'.h) = _
        rw [rsL_eq, h1]
        show oneK xs (fun v => fV v fun v => k e0 v d'.nx d'.h) = _
        rw [oneK_eq, fV_eq]
      rcases ho with rfl | rfl <;> exact this
  unfold retK at hK
  cases o with
  | exit i => exact hK.elim
  | norm =>
    simp only at hK
    cases hr : vres rs s' with
    | none => simp only [hr] at hK
    | some r => simp only [hr] at hK; exact main r hr hK (.inl rfl)
  | ret =>
    simp only at hK
    cases hr : vres rs s' with
    | none => simp only [hr] at hK
    | some r => simp only [hr] at hK; exact main r hr hK (.inr rfl)

/-- A function that only tells: what it tells hangs on no block of its caller's. -/
def VPure (F : Tr Fd) (f : P) (args : List VV) (r : VV) : Prop := FSem F f args 0 [] fun r' _ _ => r' = r

theorem FSem.mono {F : Tr Fd} {f : P} {args : List VV} {nx : Nat} {h : VHp} {R R' : VV → Nat → VHp → Prop} (H : FSem F f args nx h R) (hR : ∀ r n h, R r n h → R' r n h) : FSem F f args nx h R' := by
  intro c dnx dh g ds hc hH hx
  obtain ⟨r, nx', h', x, dnx', dh', g', a, b, cc, d, e⟩ := H c dnx dh g ds hc hH hx
  exact ⟨r, nx', h', x, dnx', dh', g', a, b, cc, d, hR _ _ _ e⟩
/-- What it made of its own is written no more, and told by its cells. -/
theorem FSem.view {F : Tr Fd} {f : P} {args : List VV} {nx : Nat} {h : VHp} {r : VV} (H : FSem F f args nx h fun r' _ h' => vw h' r' = some r) : FSem F f args nx h fun r' _ _ => r' = r := by
  intro c dnx dh g ds hc hH hx
  obtain ⟨r', nx', h', x, dnx', dh', g', a, b, cc, d, e⟩ := H c dnx dh g ds hc hH hx
  obtain ⟨R1, E1⟩ := b.freeze (keysV r') (zOf h' g' (keysV r')) fun b => Iff.rfl
  exact ⟨r, nx', _, x, dnx', dh', ⟨zOf h' g' (keysV r'), g'.μ⟩, a, R1, (vw_sound b cc e fun k h => h).none_any, d.trans E1, rfl⟩

def retV (rs : List Rs) (r : VV) (o : Out) (s : VSt) : Prop :=
  match o with
  | .exit _ => False
  | _ => match vres rs s with | some r' => vw s.h r' = some r | none => False
theorem vpure_of_body {F : Tr Fd} {f : P} {ps : List P} {body : C} {rs : List Rs} {args : List VV} {r : VV} {e : VEnv}
    (hf : Tr.get? f F = some (.mk ps body rs)) (he : vbinds ps args .nl = some e) (H : wC F body ⟨e, 0, 0, []⟩ (retV rs r)) : VPure F f args r := by
  refine FSem.view (fsem_of_body hf he (R := fun r' _ h' => vw h' r' = some r) ?_)
  have : retK rs (fun r' _ h' => vw h' r' = some r) = retV rs r := by
    funext o s; cases o <;> rfl
  rw [this]; exact H

/-! ### Calls by promises -/

section
variable {F : Tr Fd} {f : P} {args : List VV} {s : VSt} {K : VSt → VV → Prop}

/-- One's own rows are written no more: they are handed on by their cells. -/
theorem wCall_freeze {args' : List VV} (hv : vwL s.h args = some args') (H : wCall F f args' ⟨s.e, s.nx, s.w, hdels s.h (keysL args)⟩ K) : wCall F f args s K := by
  intro c d g ds R hx
  obtain ⟨R1, E1⟩ := R.hp.freeze (keysL args) (zOf s.h g (keysL args)) fun b => Iff.rfl
  have hx1 := vwL_sound R.hp hx hv (ks := keysL args) fun k h => h
  obtain ⟨s', v, d', x, g', hrun, R', hw, hxr, E, hK⟩ := H c d ⟨zOf s.h g (keysL args), g.μ⟩ ds ⟨E1.env R.env, R1⟩ hx1.none_any
  exact ⟨s', v, d', x, g', hrun, R', hw, hxr, E1.trans E, hK⟩

theorem XRs.zmono {Z Z' : P → Prop} {h : Hp} {M : Option MM} {l : List VV} {l' : List DV} (hz : ∀ b, Z b → Z' b) (x : XRs Z h M l l') : XRs Z' h M l l' := XRs.mono hz (fun _ _ => rfl) (MLe.refl _) x

mutual
theorem vw_pure (h : VHp) : ∀ (v : VV), pureV v = true → vw h v = some v
  | .ow _ _ _, hp => by simp [pureV] at hp
  | .pt _ _ _, hp => by simp [pureV] at hp
  | .os _ _ _ _ _, hp => by simp [pureV] at hp
  | .var _, hp => by simp [pureV] at hp
  | .fld _ _, hp => by simp [pureV] at hp
  | .fn f cs, hp => by simp only [pureV] at hp; simp only [vw, vwL_pure h cs hp]
  | .ifc t v, hp => by simp only [pureV] at hp; simp only [vw, vw_pure h v hp]
  | .agg l, hp => by simp only [pureV] at hp; simp only [vw, vwL_pure h l hp]
  | .tup l, hp => by simp only [pureV] at hp; simp only [vw, vwL_pure h l hp]
  | .unk, _ => rfl | .bool _, _ => rfl | .int _ _, _ => rfl | .nilp, _ => rfl | .nils, _ => rfl | .nilf, _ => rfl | .nili, _ => rfl | .nilm, _ => rfl
  | .fz _ _ _ _, _ => rfl | .fp _ _, _ => rfl
theorem vwL_pure (h : VHp) : ∀ (l : List VV), pureL l = true → vwL h l = some l
  | [], _ => rfl
  | v :: l, hp => by simp only [pureL, Bool.and_eq_true] at hp; simp only [vwL, vw_pure h v hp.1, vwL_pure h l hp.2]
end
theorem wCall_pure {args' : List VV} {r : VV} (hv : vwL s.h args = some args') (hp : VPure F f args' r) (hr : pureV r = true) (hs : scal r = true ∨ pureL args = true) (hK : K s r) : wCall F f args s K := by
  intro c d g ds R hx
  -- what the callee may read
  obtain ⟨Z1, hZ1, hlt, hx1⟩ : ∃ Z1 : P → Prop, (∀ b, g.Z b → Z1 b) ∧ (∀ b, Z1 b → b.n < d.nx.n) ∧ XRs Z1 d.h none args' ds ∧ (scal r = true ∨ Z1 = g.Z) := by
    rcases hs with hs | hs
    · refine ⟨zOf s.h g (keysL args), fun b h => .inl h, fun b hb => ?_, vwL_sound R.hp hx hv fun k h => h, .inl hs⟩
      rcases hb with hb | ⟨k, _, o, r', q, h1, h2, h3⟩
      · exact R.hp.zlt b hb
      · exact R.hp.lt h1 h2 h3
    · have e : vwL s.h args = some args := vwL_pure s.h args hs
      rw [e] at hv; cases hv
      exact ⟨g.Z, fun _ h => h, R.hp.zlt, hx.pure hs, .inr rfl⟩
  obtain ⟨hx1, hcase⟩ := hx1
  have hR0 : HpR ⟨c.wm, c.wm, d.nx, d.h, Z1, fun _ => False⟩ 0 0 [] d.nx d.h ⟨Z1, fun _ => none⟩ := {
    blk := fun k o h => by cases h
    own := fun k o r b q h => by cases h
    inj := fun k k' o o' r r' b q q' h => by cases h
    zlt := hlt
    zold := fun b h => .inl h
    top := R.hp.top
    keep := fun _ _ _ => rfl
    le := Nat.le_refl _
    wm := R.hp.wm
    wf := fun m hm => ⟨R.hp.wm m hm, fun b h => h.elim⟩ }
  obtain ⟨r', nx', h', x, dnx', dh', g', hrun, R1, hxr, E1, rfl⟩ := hp _ d.nx d.h _ ds rfl hR0 hx1.none_any
  have hkeep : ∀ b : P, b.n < d.nx.n → Tr.get? b dh' = Tr.get? b d.h := fun b hb => R1.keep b hb (fun h => h)
  obtain ⟨Zf, hzf, hzn, hxf⟩ : ∃ Zf : P → Prop, (∀ b, g.Z b → Zf b) ∧ (∀ b, Zf b → g.Z b ∨ (d.nx.n ≤ b.n ∧ b.n < dnx'.n)) ∧ ∀ M, XR Zf dh' M r' x := by
    rcases hcase with hs | rfl
    · exact ⟨g.Z, fun _ h => h, fun _ h => .inl h, fun M => hxr.scal hs⟩
    · refine ⟨g'.Z, E1.z, fun b hb => ?_, fun M => (hxr.pure hr).none_any⟩
      rcases R1.zold b hb with h | h | h
      · exact .inl h
      · exact .inr ⟨h, R1.zlt b hb⟩
      · exact h.elim
  have hm : MLe (mm s.nx s.h g) (mm s.nx s.h ⟨Zf, g.μ⟩) := MLe.refl _
  have ho : ∀ b, g.Z b → objAt b dh' = objAt b d.h := fun b hb => objAt_of (hkeep b (R.hp.zlt b hb))
  have E : Evo s.nx s.h d.nx d.h g s.nx s.h dnx' dh' ⟨Zf, g.μ⟩ := ⟨hm, hzf, ho, E1.nx⟩
  refine ⟨s, r', ⟨d.e, dnx', dh'⟩, x, ⟨Zf, g.μ⟩, ⟨rfl, hrun⟩, ⟨E.env R.env, ?_⟩, rfl, hxf _, E, hK⟩
  constructor
  · intro k o hk
    obtain ⟨h1, r1, e1, B1⟩ := R.hp.blk k o hk
    exact ⟨h1, r1, e1, B1.mono hzf ho hm fun b q hb => hkeep b (R.hp.lt hk e1 hb)⟩
  · intro k o r1 b q hk hr1 hb
    obtain ⟨a1, a2, a3⟩ := R.hp.own k o r1 b q hk hr1 hb
    refine ⟨fun h => ?_, a2, a3⟩
    rcases hzn b h with h | h
    · exact a1 h
    · have := R.hp.lt hk hr1 hb; omega
  · exact R.hp.inj
  · intro b hb
    rcases hzn b hb with h | h
    · exact Nat.lt_of_lt_of_le (R.hp.zlt b h) E1.nx
    · exact h.2
  · intro b hb
    rcases hzn b hb with h | h
    · exact R.hp.zold b h
    · exact .inr (.inl (Nat.le_trans R.hp.le h.1))
  · exact R1.top
  · intro b hb hn
    rw [hkeep b (Nat.lt_of_lt_of_le hb R.hp.le)]; exact R.hp.keep b hb hn
  · exact Nat.le_trans R.hp.le E1.nx
  · intro m hm; exact Nat.le_trans (R.hp.wm m hm) E1.nx
  · exact R.hp.wf

/-- A call by a promise: what is one's own stays so where a bare thing comes back, or where nothing of it is handed in. -/
theorem wCall_any {args' : List VV} {r : VV} {b : Bool} (hv : vwL s.h args = some args') (hp : VPure F f args' r) (hr : pureV r = true) (ha : pureL args' = true) (hb : (scal r || pureL args) = b) (hK : K (cond b s ⟨s.e, s.nx, s.w, hdels s.h (keysL args)⟩) r) : wCall F f args s K := by
  cases b with
  | true => exact wCall_pure hv hp hr (by rw [Bool.or_eq_true] at hb; exact hb) hK
  | false => exact wCall_freeze hv (wCall_pure (vwL_pure _ _ ha) hp hr (.inr ha) hK)
/-! A call that is handed blocks of its caller's own. -/

mutual
theorem XR.ext {Z : P → Prop} {h : Hp} {N N' : Nat} {f f' : Nat → Option (Nat × DV)} (hN : N ≤ N') : ∀ {v : VV} {d : DV}, (∀ k ∈ keysV v, f' k = f k) → XR Z h (some (N, f)) v d → XR Z h (some (N', f')) v d
  | _, _, _, .unk hd => .unk hd
  | _, _, _, .bool b => .bool b
  | _, _, _, .int k n => .int k n
  | _, _, _, .nilp => .nilp
  | _, _, _, .nils => .nils
  | _, _, _, .nilf => .nilf
  | _, _, _, .nili => .nili
  | _, _, _, .nilm => .nilm
  | _, _, _, .fz0 hc => .fz0 hc
  | _, _, _, .fz hn hz hk ho hl hc hx => .fz hn hz hk ho hl hc hx
  | _, _, _, .fp hz hk ho hl => .fp hz hk ho hl
  | _, _, he, .ow hd hk hf => .ow hd (Nat.lt_of_lt_of_le hk hN) fun m r e => hf m r (by rw [← he _ (List.mem_singleton.2 rfl)]; exact e)
  | _, _, he, .pt hd hk hf => .pt hd (Nat.lt_of_lt_of_le hk hN) fun m r e => hf m r (by rw [← he _ (List.mem_singleton.2 rfl)]; exact e)
  | _, _, he, .os hd hk hf => .os hd (Nat.lt_of_lt_of_le hk hN) fun m r e => hf m r (by rw [← he _ (List.mem_singleton.2 rfl)]; exact e)
  | _, _, he, .fn hl => .fn (XRs.ext hN (fun k hk => he k (by simpa [keysV] using hk)) hl)
  | _, _, he, .ifc hv => .ifc (XR.ext hN (fun k hk => he k (by simpa [keysV] using hk)) hv)
  | _, _, he, .agg hl => .agg (XRs.ext hN (fun k hk => he k (by simpa [keysV] using hk)) hl)
  | _, _, he, .tup hl => .tup (XRs.ext hN (fun k hk => he k (by simpa [keysV] using hk)) hl)
  | _, _, he, .var hl => .var (XRs.ext hN (fun k hk => he k (by simpa [keysV] using hk)) hl)
  | _, _, _, .fld p o => .fld p o
theorem XRs.ext {Z : P → Prop} {h : Hp} {N N' : Nat} {f f' : Nat → Option (Nat × DV)} (hN : N ≤ N') : ∀ {l : List VV} {l' : List DV}, (∀ k ∈ keysL l, f' k = f k) → XRs Z h (some (N, f)) l l' → XRs Z h (some (N', f')) l l'
  | _, _, _, .nil => .nil
  | _, _, he, .cons hv hl => .cons (XR.ext hN (fun k hk => he k (by simp [keysL, hk])) hv) (XRs.ext hN (fun k hk => he k (by simp [keysL, hk])) hl)
end

/-- Keys that a block's cells name. -/
def okeys : VOb → List Nat | .row _ => [] | .obj l => keysL l
def hkeys : VHp → List Nat
  | [] => []
  | (k, _) :: t => k :: hkeys t
theorem hget_hkeys : ∀ {h : VHp} {k : Nat} {o : VOb}, hget h k = some o → k ∈ hkeys h
  | [], k, o, e => by cases e
  | (j, x) :: t, k, o, e => by
    simp only [hget] at e
    by_cases hk : k = j
    · subst hk; exact List.mem_cons_self
    · rw [if_neg hk] at e; exact List.mem_cons_of_mem _ (hget_hkeys e)
theorem hkeys_hget : ∀ {h : VHp} {k : Nat}, k ∈ hkeys h → ∃ o, hget h k = some o
  | [], k, e => by cases e
  | (j, x) :: t, k, e => by
    simp only [hget]
    by_cases hk : k = j
    · rw [if_pos hk]; exact ⟨x, rfl⟩
    · rw [if_neg hk]
      rcases List.mem_cons.1 e with h | h
      · exact absurd h hk
      · exact hkeys_hget h
/-- All that is named is there. -/
def closed (h : VHp) (ks : List Nat) : Prop := ∀ k ∈ ks, k ∈ hkeys h
def closedH (h : VHp) : Prop := ∀ k o, hget h k = some o → closed h (okeys o)

theorem wCall_heap {hin : VHp} {R : VV → Nat → VHp → Prop} (hp : FSem F f args s.nx hin R) (hsub : ∀ k o, hget hin k = some o → hget s.h k = some o ∧ s.w ≤ k)
    (hcl : ∀ r nx' h', R r nx' h' → closed h' (keysV r) ∧ closedH h')
    (hK : ∀ r nx' h', R r nx' h' → s.nx ≤ nx' → K ⟨s.e, nx', s.w, h' ++ hdels s.h (hkeys hin)⟩ r) : wCall F f args s K := by
  intro c d g ds R0 hx
  obtain ⟨Rs, Es⟩ := R0.hp.sub (vh' := hin) fun k o h => (hsub k o h).1
  let own0 : P → Prop := fun b => ∃ k o r q, hget hin k = some o ∧ g.μ k = some r ∧ refAt r = some (b, q)
  have hmay : ∀ b, own0 b → ∀ m, c.wm = some m → m.n ≤ b.n := by
    rintro b ⟨k, o, r, q, h1, h2, h3⟩ m hm
    exact (R0.hp.own k o r b q (hsub k o h1).1 h2 h3).2.2 (hsub k o h1).2 m hm
  have hR0 : HpR ⟨c.wm, c.wm, d.nx, d.h, g.Z, own0⟩ s.nx 0 hin d.nx d.h g := {
    blk := Rs.blk
    own := fun k o r b q hk hr hb => ⟨(Rs.own k o r b q hk hr hb).1, .inr ⟨k, o, r, q, hk, hr, hb⟩, fun _ => hmay b ⟨k, o, r, q, hk, hr, hb⟩⟩
    inj := Rs.inj
    zlt := Rs.zlt
    zold := fun b h => .inl h
    top := Rs.top
    keep := fun _ _ _ => rfl
    le := Nat.le_refl _
    wm := R0.hp.wm
    wf := fun m hm => ⟨R0.hp.wm m hm, fun b h => hmay b h m hm⟩ }
  obtain ⟨r, nx', h', x, dnx', dh', g', hrun, R1, hxr, E1, hR⟩ := hp _ d.nx d.h g ds rfl hR0 (Es.xrs hx)
  obtain ⟨hc1, hc2⟩ := hcl r nx' h' hR
  have hK' := hK r nx' h' hR E1.m.1
  -- the ghost of the caller
  let μ2 : Nat → Option DV := fun k => match hget h' k with | some _ => g'.μ k | none => g.μ k
  let vh2 : VHp := h' ++ hdels s.h (hkeys hin)
  let g2 : Gh := ⟨g'.Z, μ2⟩
  have get_new : ∀ k o, hget h' k = some o → hget vh2 k = some o ∧ μ2 k = g'.μ k := by
    intro k o h
    exact ⟨by show hget (h' ++ _) k = _; rw [hget_append, h], by show (match hget h' k with | some _ => g'.μ k | none => g.μ k) = _; rw [h]⟩
  have get_old : ∀ k, hget h' k = none → μ2 k = g.μ k ∧ ∀ o, hget vh2 k = some o → hget s.h k = some o ∧ k ∉ hkeys hin := by
    intro k h
    refine ⟨by show (match hget h' k with | some _ => g'.μ k | none => g.μ k) = _; rw [h], fun o ho => ?_⟩
    have ho : hget (h' ++ hdels s.h (hkeys hin)) k = some o := ho
    rw [hget_append, h] at ho
    change hget (hdels s.h (hkeys hin)) k = some o at ho
    rw [hget_dels] at ho
    by_cases hk : k ∈ hkeys hin
    · rw [if_pos hk] at ho; cases ho
    · rw [if_neg hk] at ho; exact ⟨ho, hk⟩
  have rest_not : ∀ k o r b q, hget s.h k = some o → k ∉ hkeys hin → g.μ k = some r → refAt r = some (b, q) → ¬ own0 b := by
    rintro k o r b q h1 h2 h3 h4 ⟨k', o', r', q', e1, e2, e3⟩
    have := R0.hp.inj k k' o o' r r' b q q' h1 (hsub k' o' e1).1 h3 e2 h4 e3
    subst this
    exact h2 (hget_hkeys e1)
  have hmeq : ∀ k, k ∈ hkeys h' → mof vh2 μ2 k = mof h' g'.μ k := by
    intro k hk
    obtain ⟨o, ho⟩ := hkeys_hget hk
    obtain ⟨e1, e2⟩ := get_new k o ho
    unfold mof; rw [e1, e2, ho]
  have hm : MLe (mm s.nx s.h g) (mm nx' vh2 g2) := by
    refine ⟨E1.m.1, fun k hk m' r' e => ?_⟩
    obtain ⟨o, h1, h2, h3⟩ := mof_some e
    cases h4 : hget h' k with
    | some o' =>
      obtain ⟨e1, e2⟩ := get_new k o' h4
      rw [e1] at h1; cases h1
      have h2' : μ2 k = some r' := h2
      rw [e2] at h2'
      obtain ⟨m, r0, a1, a2, a3⟩ := E1.m.2 k hk m' r' (by rw [mof_eq h4 h2', h3])
      obtain ⟨o0, b1, b2, b3⟩ := mof_some a1
      exact ⟨m, r0, by rw [mof_eq (hsub k o0 b1).1 b2, b3], a2, a3⟩
    | none =>
      obtain ⟨e1, e2⟩ := get_old k h4
      have h2' : μ2 k = some r' := h2
      rw [e1] at h2'
      exact ⟨m', r', by rw [mof_eq (e2 o h1).1 h2', h3], Nat.le_refl _, fun _ => rfl⟩
  have E : Evo s.nx s.h d.nx d.h g nx' vh2 dnx' dh' g2 := ⟨hm, E1.z, E1.o, E1.nx⟩
  have hxf : XR g2.Z dh' (mm nx' vh2 g2) r x := XR.ext (Nat.le_refl _) (fun k hk => hmeq k (hc1 k hk)) hxr
  refine ⟨⟨s.e, nx', s.w, vh2⟩, r, ⟨d.e, dnx', dh'⟩, x, g2, ⟨rfl, hrun⟩, ⟨E.env R0.env, ?_⟩, rfl, hxf, E, hK'⟩
  constructor
  · intro k o hk
    cases h4 : hget h' k with
    | some o' =>
      obtain ⟨e1, e2⟩ := get_new k o' h4
      rw [e1] at hk; cases hk
      obtain ⟨b1, r1, b2, B⟩ := R1.blk k o h4
      refine ⟨b1, r1, e2.trans b2, ?_⟩
      have conv : ∀ l', XRs g'.Z dh' (o.m (mm nx' h' g')) o.cells l' → XRs g2.Z dh' (o.m (mm nx' vh2 g2)) o.cells l' := by
        intro l' hl
        cases o with
        | row l => exact hl
        | obj l => exact XRs.ext (Nat.le_refl _) (fun k' hk' => hmeq k' (hc2 k (.obj l) h4 k' hk')) hl
      rcases B with ⟨h1, h2⟩ | ⟨b, q, n, cp, sz, cells, h1, h2, h3, h5, h6, h7⟩ | ⟨b, q, cells, h1, h2, h3, h7⟩
      · exact .inl ⟨h1, h2⟩
      · exact .inr (.inl ⟨b, q, n, cp, sz, cells, h1, h2, h3, h5, h6, conv _ h7⟩)
      · exact .inr (.inr ⟨b, q, cells, h1, h2, h3, conv _ h7⟩)
    | none =>
      obtain ⟨e1, e2⟩ := get_old k h4
      obtain ⟨h1, hn⟩ := e2 o hk
      obtain ⟨b1, r1, b2, B⟩ := R0.hp.blk k o h1
      refine ⟨Nat.lt_of_lt_of_le b1 E1.m.1, r1, e1.trans b2, B.mono E1.z E1.o hm fun b q hb => ?_⟩
      exact R1.keep b (R0.hp.lt h1 b2 hb) (rest_not k o r1 b q h1 hn b2 hb)
  · intro k o r1 b q hk hr1 hb
    cases h4 : hget h' k with
    | some o' =>
      obtain ⟨e1, e2⟩ := get_new k o' h4
      have hr1' : μ2 k = some r1 := hr1
      rw [e2] at hr1'
      obtain ⟨a1, a2, a3⟩ := R1.own k o' r1 b q h4 hr1' hb
      refine ⟨a1, ?_, fun _ => a3 (Nat.zero_le _)⟩
      rcases a2 with h | ⟨k0, o0, r0, q0, h1, h2, h3⟩
      · exact .inl (Nat.le_trans R0.hp.le h)
      · exact (R0.hp.own k0 o0 r0 b q0 (hsub k0 o0 h1).1 h2 h3).2.1
    | none =>
      obtain ⟨e1, e2⟩ := get_old k h4
      obtain ⟨h1, hn⟩ := e2 o hk
      have hr1' : μ2 k = some r1 := hr1
      rw [e1] at hr1'
      obtain ⟨a1, a2, a3⟩ := R0.hp.own k o r1 b q h1 hr1' hb
      refine ⟨fun hz => ?_, a2, a3⟩
      rcases R1.zold b hz with h | h | h
      · exact a1 h
      · have := R0.hp.lt h1 hr1' hb; have h : d.nx.n ≤ b.n := h; omega
      · exact rest_not k o r1 b q h1 hn hr1' hb h
  · intro k k' o o' r1 r2 b q1 q2 hk hk' hr1 hr2 hb hb'
    have hr1' : μ2 k = some r1 := hr1
    have hr2' : μ2 k' = some r2 := hr2
    -- a block of the callee's, and one of the rest
    have cross : ∀ k k' o o' r1 r2 q1 q2, hget h' k = some o → hget h' k' = none → hget vh2 k' = some o' → μ2 k = some r1 → μ2 k' = some r2 → refAt r1 = some (b, q1) → refAt r2 = some (b, q2) → False := by
      intro k k' o o' r1 r2 q1 q2 h4 h5 hk' hr1 hr2 hb hb'
      obtain ⟨_, e2⟩ := get_new k o h4
      rw [e2] at hr1
      obtain ⟨e3, e4⟩ := get_old k' h5
      obtain ⟨h1, hn⟩ := e4 o' hk'
      rw [e3] at hr2
      rcases (R1.own k o r1 b q1 h4 hr1 hb).2.1 with h | h
      · have := R0.hp.lt h1 hr2 hb'; have h : d.nx.n ≤ b.n := h; omega
      · exact rest_not k' o' r2 b q2 h1 hn hr2 hb' h
    cases h4 : hget h' k with
    | some o1 =>
      cases h5 : hget h' k' with
      | some o2 =>
        rw [(get_new k o1 h4).2] at hr1'
        rw [(get_new k' o2 h5).2] at hr2'
        exact R1.inj k k' o1 o2 r1 r2 b q1 q2 h4 h5 hr1' hr2' hb hb'
      | none => exact (cross k k' o1 o' r1 r2 q1 q2 h4 h5 hk' hr1' hr2' hb hb').elim
    | none =>
      cases h5 : hget h' k' with
      | some o2 => exact (cross k' k o2 o r2 r1 q2 q1 h5 h4 hk hr2' hr1' hb' hb).elim
      | none =>
        obtain ⟨e1, e2⟩ := get_old k h4
        obtain ⟨e3, e4⟩ := get_old k' h5
        rw [e1] at hr1'; rw [e3] at hr2'
        exact R0.hp.inj k k' o o' r1 r2 b q1 q2 (e2 o hk).1 (e4 o' hk').1 hr1' hr2' hb hb'
  · exact R1.zlt
  · intro b hb
    rcases R1.zold b hb with h | h | ⟨k0, o0, r0, q0, h1, h2, h3⟩
    · exact R0.hp.zold b h
    · exact .inr (.inl (Nat.le_trans R0.hp.le h))
    · exact .inr (R0.hp.own k0 o0 r0 b q0 (hsub k0 o0 h1).1 h2 h3).2.1
  · exact R1.top
  · intro b hb hn
    rw [R1.keep b (Nat.lt_of_lt_of_le hb R0.hp.le) ?_]
    · exact R0.hp.keep b hb hn
    · rintro ⟨k0, o0, r0, q0, h1, h2, h3⟩
      rcases (R0.hp.own k0 o0 r0 b q0 (hsub k0 o0 h1).1 h2 h3).2.1 with h | h
      · omega
      · exact hn h
  · exact Nat.le_trans R0.hp.le E1.nx
  · intro m hm'; exact Nat.le_trans (R0.hp.wm m hm') E1.nx
  · exact R0.hp.wf
end
end Go.Proofs.Ythdlkpmhjbaplaa.Dx
