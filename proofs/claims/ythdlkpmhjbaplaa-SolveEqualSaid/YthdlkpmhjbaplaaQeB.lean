/- A part of the proof of Equal: a small machine, what its functions come to, plain laws. No statement of this seat is proved here. -/
import Derived.Test.YthdlkpmhjbaplaaQeA
set_option autoImplicit false
set_option linter.unusedVariables false
set_option linter.unusedSimpArgs false
set_option maxRecDepth 100000
noncomputable section
namespace Go.Proofs.Ythdlkpmhjbaplaa.Dx
open Go
section
variable {F : Tr Fd} {s : VSt} {K : VSt → VV → Prop}
theorem s_call {f : P} {as : List Opd} (H : wI F (.call f as) s K) : ISem F (.call f as) s K := by
  intro c d g R
  simp only [wI] at H
  cases hx : vovs as s.e with
  | none => simp only [hx] at H
  | some args =>
    simp only [hx] at H
    obtain ⟨s', v, d', x, g', ⟨he, fuel, hrun⟩, R', hw, hxr, E, hK⟩ := H c d g _ R (vovs_sound R.env hx)
    refine ⟨s', v, d', x, g', ⟨fuel, fun n hn k => ?_⟩, R', hw, hxr, E, hK⟩
    show ovsK as d.e (fun vs => callK F (exec F n) c.wm f vs d.e d.nx d.h k) = _
    rw [ovsK_eq, hrun n hn, he]
theorem s_callv {f : Opd} {as : List Opd} (H : wI F (.callv f as) s K) : ISem F (.callv f as) s K := by
  intro c d g R
  simp only [wI] at H
  cases hf : vev f s.e with
  | none => simp only [hf] at H
  | some v =>
    cases v <;> simp only [hf] at H
    rename_i f' cs
    cases hx : vovs as s.e with
    | none => simp only [hx] at H
    | some args =>
      simp only [hx] at H
      obtain ⟨cs', e1, r1⟩ := (vev_sound R.env hf).fn_inv
      obtain ⟨s', v, d', x, g', ⟨he, fuel, hrun⟩, R', hw, hxr, E, hK⟩ := H c d g _ R ((vovs_sound R.env hx).append r1)
      refine ⟨s', v, d', x, g', ⟨fuel, fun n hn k => ?_⟩, R', hw, hxr, E, hK⟩
      show asF (ev f d.e) .fail (fun f cs => ovsK as d.e fun vs => catK vs cs fun vs => callK F (exec F n) c.wm f vs d.e d.nx d.h k) = _
      rw [e1, asF_eq]
      show ovsK as d.e (fun vs => catK vs cs' fun vs => callK F (exec F n) c.wm f' vs d.e d.nx d.h k) = _
      rw [ovsK_eq, catK_eq, hrun n hn, he]
theorem wI_sound {i : Ins} (H : wI F i s K) : ISem F i s K := by
  cases i with
  | mv a => exact s_mv H
  | pick c a b => exact s_pick H
  | al z => exact s_al H
  | bx a => exact s_bx H
  | bld z ps => exact s_bld H
  | bsl len sz z ps => exact s_bsl H
  | ld a => exact s_ld H
  | lda n a => exact s_lda H
  | vla n a => exact s_vla H
  | st n a v => exact s_st H
  | nc a => exact s_nc H
  | bin b x y => exact s_bin H
  | aeq ks neg x y => exact s_aeq H
  | beq neg x y => exact s_beq H
  | isnil neg x => exact s_isnil H
  | neg a => exact s_neg H
  | not a => exact s_not H
  | cv k a => exact s_cv H
  | mfn f cs => exact s_mfn H
  | fa o a => exact s_fa H
  | fi o a => exact s_fi H
  | fia o n a => exact s_fia H
  | ia sz a i => exact s_ia H
  | msl sz bt z len cap => exact s_msl H
  | sla sz x lo hi mx => exact s_sla H
  | ex a i => exact s_ex H
  | call f as => exact s_call H
  | callv f as => exact s_callv H
  | len a => exact s_len H
  | cap a => exact s_cap H
  | app sz bt s x => exact s_app H
  | mx a l => exact s_mx H
  | mn a l => exact s_mn H
  | apz sz bt z s n => exact s_apz H
  | clr sz z a => exact s_clr H
  | shr x y => exact s_shr H
  | bad => exact H.elim
end
section
variable {F : Tr Fd}
def OSem (F : Tr Fd) (o : Op) (s : VSt) (K : VSt → Prop) : Prop :=
  ∀ (c : Ctx) (d : DS) (g : Gh), RS c s d g → ∃ s' d' g', ORun F o c d d' ∧ RS c s' d' g' ∧ s'.w = s.w ∧ EvoS s d g s' d' g' ∧ K s'
theorem vput_env {Z : P → Prop} {h : Hp} {M : Option MM} {s : VSt} {e : Env} {v : VV} {x : DV} (hE : EnvR Z h M s.e e) (hx : XR Z h M v x) (dst : Option P) : EnvR Z h M (vput dst v s).e (dstE dst x e) := by
  cases dst with
  | none => exact hE
  | some p => exact hE.set hx
theorem vput_nx (dst : Option P) (v : VV) (s : VSt) : (vput dst v s).nx = s.nx ∧ (vput dst v s).h = s.h ∧ (vput dst v s).w = s.w := by cases dst <;> exact ⟨rfl, rfl, rfl⟩
theorem RS.put {c : Ctx} {s : VSt} {d : DS} {g : Gh} (R : RS c s d g) {v : VV} {x : DV} (hx : XR g.Z d.h (mm s.nx s.h g) v x) (dst : Option P) : RS c (vput dst v s) ⟨dstE dst x d.e, d.nx, d.h⟩ g := by
  obtain ⟨h1, h2, h3⟩ := vput_nx dst v s
  refine ⟨?_, ?_⟩
  · rw [h1, h2]; exact vput_env R.env hx dst
  · rw [h1, h2, h3]; exact R.hp
theorem Evo.put {s : VSt} {d : DS} {g : Gh} {s' : VSt} {d' : DS} {g' : Gh} (E : EvoS s d g s' d' g') (dst : Option P) (v : VV) (e : Env) : EvoS s d g (vput dst v s') ⟨e, d'.nx, d'.h⟩ g' := by
  obtain ⟨h1, h2, _⟩ := vput_nx dst v s'
  show Evo _ _ _ _ _ (vput dst v s').nx (vput dst v s').h _ _ _
  rw [h1, h2]; exact E
theorem opRun_sound {dst : Option P} {i : Ins} {s : VSt} {K : VSt → Prop} (H : wI F i s fun s' v => K (vput dst v s')) (c : Ctx) (d : DS) (g : Gh) (R : RS c s d g) :
    ∃ s' d' g', (∃ fuel, ∀ n, fuel ≤ n → ∀ k : Ko, opRun dst i F (exec F n) c.wm d.e d.nx d.h k = k d'.e d'.nx d'.h) ∧ RS c s' d' g' ∧ s'.w = s.w ∧ EvoS s d g s' d' g' ∧ K s' := by
  obtain ⟨s', v, d', x, g', ⟨fuel, hrun⟩, R', hw, hx, E, hK⟩ := wI_sound H c d g R
  refine ⟨vput dst v s', ⟨dstE dst x d'.e, d'.nx, d'.h⟩, g', ⟨fuel, fun n hn k => ?_⟩, R'.put hx dst, ?_, E.put dst v _, hK⟩
  · show insK i F (exec F n) c.wm d.e d.nx d.h (fun e v nx h => opDst dst v e fun e => k e nx h) = _
    rw [hrun n hn, opDst_eq]
  · rw [(vput_nx dst v s').2.2]; exact hw
theorem wO_sound {o : Op} {s : VSt} {K : VSt → Prop} (H : wO F o s K) : OSem F o s K := by
  intro c d g R
  cases o with
  | mk dst gd i =>
    cases gd with
    | none => exact opRun_sound H c d g R
    | some pb =>
      obtain ⟨p, b⟩ := pb
      simp only [wO] at H
      cases hp : vev (.t p) s.e with
      | none => simp only [hp] at H
      | some v =>
        have hx : XR g.Z d.h (mm s.nx s.h g) v (evT p d.e) := vev_sound (o := .t p) R.env hp
        cases v <;> simp only [hp] at H
        case bool t =>
          have e1 := hx.bool_inv
          have hpp : ∃ y, Tr.get? p d.e = some y ∧ y = .bool t := by
            simp only [vev] at hp
            cases h1 : Tr.get? p s.e with
            | none => simp only [h1, reduceCtorEq] at hp
            | some u =>
              simp only [h1, Option.some.injEq] at hp
              obtain ⟨y, hy, hxy⟩ := R.env.get h1
              cases u <;> simp only [vplace, reduceCtorEq] at hp
              rw [hp] at hxy
              exact ⟨y, hy, hxy.bool_inv⟩
          obtain ⟨y, hy, rfl⟩ := hpp
          have run : ∀ (n : Nat) (k : Ko), opK (.mk dst (some (p, b)) i) F (exec F n) c.wm d.e d.nx d.h k = opGt dst i F (exec F n) c.wm d.e d.nx d.h k b t := by
            intro n k
            show asB (evT p d.e) (asT (evT p d.e) .fail (opGn dst d.e d.nx d.h k)) (opGt dst i F (exec F n) c.wm d.e d.nx d.h k b) = _
            rw [e1, asB_eq]
          have hset : Tr.set p d.e (some (.bool t)) = d.e ∨ True := .inr trivial
          by_cases hb : t = b
          · subst hb
            have R1 : RS c ⟨Tr.set p s.e (some (.bool t)), s.nx, s.w, s.h⟩ d g := by
              refine ⟨fun q => ?_, R.hp⟩
              show match Tr.get? q (Tr.set p s.e (some (.bool t))), Tr.get? q d.e with | none, none => True | some v, some x => XR g.Z d.h (mm s.nx s.h g) v x | _, _ => False
              rw [Tr.get_set]
              by_cases hq : q = p
              · subst hq; rw [if_pos rfl, hy]; exact .bool _
              · rw [if_neg hq]; exact R.env q
            obtain ⟨s', d', g', ⟨fuel, hrun⟩, R', hw, E, hK⟩ := opRun_sound (H.1 rfl) c d g R1
            refine ⟨s', d', g', ⟨fuel, fun n hn k => ?_⟩, R', hw, E, hK⟩
            rw [run]
            show Bool.rec (motive := fun _ => Res) (opSkip dst d.e d.nx d.h k) (opRun dst i F (exec F n) c.wm d.e d.nx d.h k) (beqB t t) = _
            have : beqB t t = true := by cases t <;> rfl
            rw [this]; exact hrun n hn k
          · have hbt : t = !b := by cases t <;> cases b <;> first | rfl | exact absurd rfl hb
            have R1 : RS c ⟨Tr.set p s.e (some (.bool !b)), s.nx, s.w, s.h⟩ d g := by
              refine ⟨fun q => ?_, R.hp⟩
              show match Tr.get? q (Tr.set p s.e (some (.bool !b))), Tr.get? q d.e with | none, none => True | some v, some x => XR g.Z d.h (mm s.nx s.h g) v x | _, _ => False
              rw [Tr.get_set]
              by_cases hq : q = p
              · subst hq; rw [if_pos rfl, hy, hbt]; exact .bool _
              · rw [if_neg hq]; exact R.env q
            refine ⟨_, ⟨dstE dst (.tup []) d.e, d.nx, d.h⟩, g, ⟨0, fun n hn k => ?_⟩, R1.put (.tup .nil) dst, ?_, Evo.put (s := s) (d := d) (s' := ⟨Tr.set p s.e (some (.bool !b)), s.nx, s.w, s.h⟩) (d' := d) (Evo.refl _ _ _ _ _) dst _ _, H.2 hbt⟩
            · rw [run]
              show Bool.rec (motive := fun _ => Res) (opSkip dst d.e d.nx d.h k) (opRun dst i F (exec F n) c.wm d.e d.nx d.h k) (beqB t b) = _
              have : beqB t b = false := by rw [hbt]; cases b <;> rfl
              rw [this]
              show opDst dst (.tup []) d.e (fun e => k e d.nx d.h) = _
              rw [opDst_eq]
            · rw [(vput_nx dst _ _).2.2]
        case tup l =>
          cases l with
          | cons _ _ => simp only at H
          | nil =>
            simp only at H
            obtain ⟨l', e1, r1⟩ := hx.tup_inv
            cases r1
            refine ⟨_, ⟨dstE dst (.tup []) d.e, d.nx, d.h⟩, g, ⟨0, fun n hn k => ?_⟩, R.put (.tup .nil) dst, ?_, Evo.put (Evo.refl _ _ _ _ _) dst _ _, H⟩
            · show asB (evT p d.e) (asT (evT p d.e) .fail (opGn dst d.e d.nx d.h k)) (opGt dst i F (exec F n) c.wm d.e d.nx d.h k b) = _
              rw [e1, asB_eq, asT_eq]
              show opDst dst (.tup []) d.e (fun e => k e d.nx d.h) = _
              rw [opDst_eq]
            · rw [(vput_nx dst _ _).2.2]
  | loc p z =>
    simp only [wO] at H
    cases hz : ofDVs z with
    | none => simp only [hz] at H
    | some l =>
      simp only [hz] at H
      refine ⟨⟨Tr.set p s.e (some (.var l)), s.nx, s.w, s.h⟩, ⟨Tr.set p d.e (some (.var z)), d.nx, d.h⟩, g, ⟨0, fun n hn k => ?_⟩, ⟨R.env.set (.var (ofDVs_sound hz)), R.hp⟩, rfl, Evo.refl _ _ _ _ _, H.2⟩
      show notVar p d.e (fun _ => Tr.setK p d.e (some (.var z)) fun e => k e d.nx d.h) = _
      rw [notVar_eq, if_neg, Tr.setK_eq]
      rintro ⟨l', hl'⟩
      have := R.env p
      rw [hl'] at this
      have h0 := H.1
      unfold isVarV at h0
      cases h1 : Tr.get? p s.e with
      | none => rw [h1] at this; exact this
      | some u =>
        rw [h1] at this h0
        cases this
        case unk hd => exact hd
        case ow _ hd _ => rcases hd with h | ⟨k, o, n, c, s, h⟩ <;> cases h
        case pt _ hd _ => obtain ⟨k, o, h⟩ := hd; cases h
        case os _ hd _ => rcases hd with h | ⟨k, o, n, c, s, h⟩ <;> cases h
        case var => cases h0
  | locb p a =>
    simp only [wO] at H
    cases hv : vov a s.e with
    | none => simp only [hv] at H
    | some v =>
      simp only [hv] at H
      cases hc : vcells v with
      | none => simp only [hc] at H
      | some l =>
        simp only [hc] at H
        obtain ⟨l', h1, h2⟩ := vcells_sound (vov_sound R.env hv) hc
        refine ⟨⟨Tr.set p s.e (some (.var l)), s.nx, s.w, s.h⟩, ⟨Tr.set p d.e (some (.var l')), d.nx, d.h⟩, g, ⟨0, fun n hn k => ?_⟩, ⟨R.env.set (.var h2), R.hp⟩, rfl, Evo.refl _ _ _ _ _, H.2⟩
        show notVar p d.e (fun _ => ovK a d.e fun v => cellsK v .fail fun l => Tr.setK p d.e (some (.var l)) fun e => k e d.nx d.h) = _
        rw [notVar_eq, if_neg, ovK_eq, cellsK_eq, h1]
        · show Tr.setK p d.e (some (.var l')) (fun e => k e d.nx d.h) = _
          rw [Tr.setK_eq]
        · rintro ⟨l', hl'⟩
          have := R.env p
          rw [hl'] at this
          have h0 := H.1
          unfold isVarV at h0
          cases h1 : Tr.get? p s.e with
          | none => rw [h1] at this; exact this
          | some u =>
            rw [h1] at this h0
            cases this
            case unk hd => exact hd
            case ow _ hd _ => rcases hd with h | ⟨k, o, n, c, s, h⟩ <;> cases h
            case pt _ hd _ => obtain ⟨k, o, h⟩ := hd; cases h
            case os _ hd _ => rcases hd with h | ⟨k, o, n, c, s, h⟩ <;> cases h
            case var => cases h0
theorem wOs_sound : ∀ {l : List Op} {s : VSt} {K : VSt → Prop}, wOs F l s K → ∀ (c : Ctx) (d : DS) (g : Gh), RS c s d g →
    ∃ s' d' g', (∃ fuel, ∀ n, fuel ≤ n → ∀ k : Ko, opsK l F (exec F n) c.wm d.e d.nx d.h k = k d'.e d'.nx d'.h) ∧ RS c s' d' g' ∧ s'.w = s.w ∧ EvoS s d g s' d' g' ∧ K s'
  | [], s, K, H, c, d, g, R => ⟨s, d, g, ⟨0, fun n _ k => rfl⟩, R, rfl, Evo.refl _ _ _ _ _, H⟩
  | o :: l, s, K, H, c, d, g, R => by
    obtain ⟨s1, d1, g1, ⟨f1, r1⟩, R1, hw1, E1, H1⟩ := wO_sound (o := o) H c d g R
    obtain ⟨s2, d2, g2, ⟨f2, r2⟩, R2, hw2, E2, H2⟩ := wOs_sound H1 c d1 g1 R1
    refine ⟨s2, d2, g2, ⟨max f1 f2, fun n hn k => ?_⟩, R2, hw2.trans hw1, E1.trans E2, H2⟩
    show opK o F (exec F n) c.wm d.e d.nx d.h (fun e nx h => opsK l F (exec F n) c.wm e nx h k) = _
    rw [r1 n (by omega), r2 n (by omega)]
theorem vuse_sound {Z : P → Prop} {h : Hp} {M : Option MM} {c : Bool} {e : VEnv} {d : Env} (x : EnvR Z h M e d) : ∀ (l : List P) {acc : VEnv} {acc' : Env}, EnvR Z h M acc acc' → EnvR Z h M (vuse c e l acc) (use c d l acc')
  | [], _, _, a => a
  | p :: l, acc, acc', a => by
    refine vuse_sound x l ?_
    unfold vuseP useP
    have hp := x p
    cases h1 : Tr.get? p e with
    | none =>
      rw [x.get_none h1]
      exact a
    | some v =>
      obtain ⟨y, hy, hxy⟩ := x.get h1
      rw [hy]
      have noV : ∀ {v : VV} {y : DV}, XR Z h M v y → (∀ l, v ≠ .var l) → (∀ p o, v ≠ .fld p o) → EnvR Z h M (Tr.set p acc (some (match c with | true => v | false => vbare v)))
          (match (some y : Option DV) with | none => acc' | some (.fld q o) => (match Tr.get? q acc' with | some (.var _) => Tr.set p acc' (some (.fld q o)) | _ => acc') | some v => Tr.set p acc' (some (match c with | true => v | false => bareV v))) := by
        intro v y hxy hv hf
        have hpl := hxy.plain hv hf
        have e1 : (match c with | true => v | false => vbare v) = v := by
          cases c
          · show vbare v = v
            cases v <;> first | rfl | exact absurd rfl (hv _)
          · rfl
        rw [e1]
        cases y <;> first | exact hpl.elim | skip
        all_goals cases c <;> exact a.set hxy
      cases v
      case fld q o =>
        cases hxy.fld_inv
        show EnvR Z h M (match Tr.get? q acc with | some (.var _) => Tr.set p acc (some (.fld q o)) | _ => acc) (match Tr.get? q acc' with | some (.var _) => Tr.set p acc' (some (.fld q o)) | _ => acc')
        cases h2 : Tr.get? q acc with
        | none => rw [a.get_none h2]; exact a
        | some u =>
          obtain ⟨z, hz, hzz⟩ := a.get h2
          rw [hz]
          cases u
          case var l => obtain ⟨l', rfl, _⟩ := hzz.var_inv; exact a.set (.fld q o)
          case fld _ _ => cases hzz.fld_inv; exact a
          all_goals
            have hnv : ∀ l, z ≠ .var l := by
              rintro l rfl
              exact hzz.plain (fun _ h => by cases h) (fun _ _ h => by cases h)
            cases z <;> first | exact a | exact absurd rfl (hnv _)
      case var l =>
        obtain ⟨l', rfl, hl⟩ := hxy.var_inv
        cases c
        · exact a.set (.var .nil)
        · exact a.set (.var hl)
      all_goals exact noV hxy (fun _ h => by cases h) (fun _ _ h => by cases h)
theorem vback_sound {Z : P → Prop} {h : Hp} {M : Option MM} {r : VEnv} {r' : Env} (x : EnvR Z h M r r') : ∀ (l : List P) {e : VEnv} {e' : Env}, EnvR Z h M e e' → EnvR Z h M (vback r l e) (back r' l e')
  | [], _, _, a => a
  | p :: l, e, e', a => by
    refine vback_sound x l ?_
    unfold vbackP backP
    cases h1 : Tr.get? p r with
    | none => rw [x.get_none h1]; exact a
    | some v =>
      obtain ⟨y, hy, hxy⟩ := x.get h1
      rw [hy]; exact a.set hxy
theorem vkeep_sound {Z : P → Prop} {h : Hp} {M : Option MM} {e : VEnv} {d : Env} (x : EnvR Z h M e d) : ∀ (l : List P) {acc : VEnv} {acc' : Env}, EnvR Z h M acc acc' → EnvR Z h M (vkeep e l acc) (keep d l acc')
  | [], _, _, a => a
  | p :: l, acc, acc', a => by
    simp only [vkeep, keep]
    cases h1 : Tr.get? p e with
    | none => rw [x.get_none h1]; exact vkeep_sound x l a
    | some v =>
      obtain ⟨y, hy, hxy⟩ := x.get h1
      rw [hy]
      cases v
      case fld q o => cases hxy.fld_inv; exact vkeep_sound x l a
      case var l0 => obtain ⟨l', rfl, hl⟩ := hxy.var_inv; exact vkeep_sound x l (a.set (.var hl))
      all_goals
        have hpl := hxy.plain (fun _ h => by cases h) (fun _ _ h => by cases h)
        cases y <;> first | exact vkeep_sound x l (a.set hxy) | exact hpl.elim
theorem HpR.wmv {c : Ctx} {nx w w' : Nat} {vh : VHp} {dnx : P} {dh : Hp} {g : Gh} {wm : Option P} (R : HpR c nx w vh dnx dh g)
    (h1 : ∀ m, wm = some m → m.n ≤ dnx.n) (h2 : ∀ k o r b q, hget vh k = some o → g.μ k = some r → refAt r = some (b, q) → w' ≤ k → ∀ m, wm = some m → m.n ≤ b.n) : HpR { c with wm := wm } nx w' vh dnx dh g where
  blk := R.blk
  own := fun k o r b q hk hr hb => ⟨(R.own k o r b q hk hr hb).1, (R.own k o r b q hk hr hb).2.1, h2 k o r b q hk hr hb⟩
  inj := R.inj
  zlt := R.zlt
  zold := R.zold
  top := R.top
  keep := R.keep
  le := R.le
  wm := h1
  wf := R.wf
theorem wDr_sound {x : Dop} {s : VSt} {K : VSt → Prop} (H : wDr F x s K) (c : Ctx) (d : DS) (g : Gh) (hc : c.wm = c.wm0) (R : RS c s d g) :
    ∃ s' d' g', (∃ fuel, ∀ n, fuel ≤ n → ∀ k : Ko, dopK x F (exec F n) c.wm d.e d.nx d.h k = k d'.e d'.nx d'.h) ∧ RS c s' d' g' ∧ s'.w = s.w ∧ EvoS s d g s' d' g' ∧ K s' := by
  cases x with
  | mk cb u b r o =>
    simp only [wDr] at H
    have R1 : RS { c with wm := wmOf r d.nx c.wm } ⟨vuse cb s.e u .nl, s.nx, wOf r s.nx s.w, s.h⟩ ⟨use cb d.e u .nl, d.nx, d.h⟩ g := by
      refine ⟨vuse_sound R.env u EnvR.nl, ?_⟩
      cases r with
      | false => exact R.hp
      | true =>
        refine R.hp.wmv (wm := some d.nx) (fun m h => by cases h; exact Nat.le_refl _) (fun k o r b q hk hr hb hw => ?_)
        have := (R.hp.blk k o hk).1
        exact absurd hw (by show ¬ s.nx ≤ k; omega)
    obtain ⟨s1, d1, g1, ⟨f1, r1⟩, R2, hw, E, hK⟩ := wO_sound H _ _ g R1
    refine ⟨⟨vback s1.e b s.e, s1.nx, s.w, s1.h⟩, ⟨back d1.e b d.e, d1.nx, d1.h⟩, g1, ⟨f1, fun n hn k => ?_⟩, ⟨vback_sound R2.env b (E.env R.env), ?_⟩, rfl, E, hK⟩
    · show useK cb u d.e .nl (fun r0 => opK o F (exec F n) (wmOf r d.nx c.wm) r0 d.nx d.h fun r1 nx h => backK b r1 d.e fun e => k e nx h) = _
      rw [useK_eq, r1 n hn, backK_eq]
    · have := R2.hp.wmv (wm := c.wm) (w' := s.w) (fun m hm => Nat.le_trans (R.hp.wm m hm) E.nx) (fun k o' r' b' q hk hr hb hw' m hm => ?_)
      · exact this
      · have h1 := R.hp.wf m (by rw [← hc]; exact hm)
        rcases (R2.hp.own k o' r' b' q hk hr hb).2.1 with h2 | h2
        · exact Nat.le_trans h1.1 h2
        · exact h1.2 _ h2
theorem wDg_sound {x : Dop} {s : VSt} {p : P} {gd : Bool} {K : VSt → Prop} (H : wDg F x s p gd K) (c : Ctx) (d : DS) (g : Gh) (hc : c.wm = c.wm0) (R : RS c s d g) :
    ∃ s' d' g', (∃ fuel, ∀ n, fuel ≤ n → ∀ k : Ko, dopK x F (exec F n) c.wm d.e d.nx d.h k = k d'.e d'.nx d'.h) ∧ RS c s' d' g' ∧ s'.w = s.w ∧ EvoS s d g s' d' g' ∧ K s' := by
  unfold wDg at H
  cases hp : vev (.t p) s.e with
  | none => simp only [hp] at H; exact wDr_sound H c d g hc R
  | some v =>
    cases v <;> simp only [hp] at H <;> try exact wDr_sound H c d g hc R
    rename_i t
    obtain ⟨u, hu, huv⟩ : ∃ u, Tr.get? p s.e = some u ∧ u = .bool t := by
      simp only [vev] at hp
      cases h1 : Tr.get? p s.e with
      | none => simp only [h1, reduceCtorEq] at hp
      | some u =>
        simp only [h1, Option.some.injEq] at hp
        refine ⟨u, rfl, ?_⟩
        cases u <;> simp only [vplace, reduceCtorEq] at hp
        exact hp
    subst huv
    have R1 : ∀ b, t = b → RS c ⟨Tr.set p s.e (some (.bool b)), s.nx, s.w, s.h⟩ d g := by
      rintro b rfl
      refine ⟨fun q => ?_, R.hp⟩
      show match Tr.get? q (Tr.set p s.e (some (.bool t))), Tr.get? q d.e with | none, none => True | some v, some x => XR g.Z d.h (mm s.nx s.h g) v x | _, _ => False
      rw [Tr.get_set]
      by_cases hq : q = p
      · subst hq; rw [if_pos rfl]; have := R.env q; rw [hu] at this; exact this
      · rw [if_neg hq]; exact R.env q
    by_cases hb : t = gd
    · exact wDr_sound (H.1 hb) c d g hc (R1 gd hb)
    · have hbt : t = !gd := by cases t <;> cases gd <;> first | rfl | exact absurd rfl hb
      exact wDr_sound (H.2 hbt) c d g hc (R1 (!gd) hbt)
theorem wD_sound {x : Dop} {s : VSt} {K : VSt → Prop} (H : wD F x s K) (c : Ctx) (d : DS) (g : Gh) (hc : c.wm = c.wm0) (R : RS c s d g) :
    ∃ s' d' g', (∃ fuel, ∀ n, fuel ≤ n → ∀ k : Ko, dopK x F (exec F n) c.wm d.e d.nx d.h k = k d'.e d'.nx d'.h) ∧ RS c s' d' g' ∧ s'.w = s.w ∧ EvoS s d g s' d' g' ∧ K s' := by
  cases x with
  | mk cb u b r o =>
    cases o with
    | mk dst gd i =>
      cases gd with
      | none => exact wDr_sound (x := .mk cb u b r (.mk dst none i)) H c d g hc R
      | some pg => obtain ⟨p, b0⟩ := pg; exact wDg_sound H c d g hc R
    | loc p z => exact wDr_sound (x := .mk cb u b r (.loc p z)) H c d g hc R
    | locb p a => exact wDr_sound (x := .mk cb u b r (.locb p a)) H c d g hc R
theorem wDs_sound : ∀ {l : List Dop} {s : VSt} {K : VSt → Prop}, wDs F l s K → ∀ (c : Ctx) (d : DS) (g : Gh), c.wm = c.wm0 → RS c s d g →
    ∃ s' d' g', (∃ fuel, ∀ n, fuel ≤ n → ∀ k : Ko, dopsK l F (exec F n) c.wm d.e d.nx d.h k = k d'.e d'.nx d'.h) ∧ RS c s' d' g' ∧ s'.w = s.w ∧ EvoS s d g s' d' g' ∧ K s'
  | [], s, K, H, c, d, g, hc, R => ⟨s, d, g, ⟨0, fun n _ k => rfl⟩, R, rfl, Evo.refl _ _ _ _ _, H⟩
  | o :: l, s, K, H, c, d, g, hc, R => by
    obtain ⟨s1, d1, g1, ⟨f1, r1⟩, R1, hw1, E1, H1⟩ := wD_sound (x := o) H c d g hc R
    obtain ⟨s2, d2, g2, ⟨f2, r2⟩, R2, hw2, E2, H2⟩ := wDs_sound H1 c d1 g1 hc R1
    refine ⟨s2, d2, g2, ⟨max f1 f2, fun n hn k => ?_⟩, R2, hw2.trans hw1, E1.trans E2, H2⟩
    show dopK o F (exec F n) c.wm d.e d.nx d.h (fun e nx h => dopsK l F (exec F n) c.wm e nx h k) = _
    rw [r1 n (by omega), r2 n (by omega)]
theorem wC_sound : ∀ {cd : C} {s : VSt} {K : Out → VSt → Prop}, wC F cd s K → CSem F cd s K := by
  intro cd
  induction cd with
  | skip => intro s K H c d g hc R; exact ⟨.norm, s, d, g, ⟨0, fun n _ => rfl⟩, R, rfl, Evo.refl _ _ _ _ _, H⟩
  | exit id => intro s K H c d g hc R; exact ⟨.exit id, s, d, g, ⟨0, fun n _ => rfl⟩, R, rfl, Evo.refl _ _ _ _ _, H⟩
  | ret => intro s K H c d g hc R; exact ⟨.ret, s, d, g, ⟨0, fun n _ => rfl⟩, R, rfl, Evo.refl _ _ _ _ _, H⟩
  | reg l =>
    intro s K H c d g hc R
    obtain ⟨s1, d1, g1, ⟨f1, r1⟩, R1, hw1, E1, H1⟩ := wOs_sound (l := l) H c d g R
    exact ⟨.norm, s1, d1, g1, ⟨f1, fun n hn => r1 n hn okN⟩, R1, hw1, E1, H1⟩
  | drw l =>
    intro s K H c d g hc R
    obtain ⟨s1, d1, g1, ⟨f1, r1⟩, R1, hw1, E1, H1⟩ := wDs_sound (l := l) H c d g hc R
    exact ⟨.norm, s1, d1, g1, ⟨f1, fun n hn => r1 n hn okN⟩, R1, hw1, E1, H1⟩
  | seq a b iha ihb =>
    intro s K H c d g hc R
    obtain ⟨o1, s1, d1, g1, ⟨f1, r1⟩, R1, hw1, E1, H1⟩ := iha (K := fun o s' => match o with | .norm => wC F b s' K | .exit i => K (.exit i) s' | .ret => K .ret s') H c d g hc R
    have run : ∀ n, f1 ≤ n → step (.seq a b) F (exec F n) c.wm d.e d.nx d.h = sqO (step b) F (exec F n) c.wm o1 d1.e d1.nx d1.h := by
      intro n hn
      show Res.rec (motive := fun _ => Res) .fail (sqO (step b) F (exec F n) c.wm) (step a F (exec F n) c.wm d.e d.nx d.h) = _
      rw [r1 n hn]
    cases o1 with
    | norm =>
      obtain ⟨o2, s2, d2, g2, ⟨f2, r2⟩, R2, hw2, E2, H2⟩ := ihb H1 c d1 g1 hc R1
      exact ⟨o2, s2, d2, g2, ⟨max f1 f2, fun n hn => by rw [run n (by omega)]; exact r2 n (by omega)⟩, R2, hw2.trans hw1, E1.trans E2, H2⟩
    | exit id => exact ⟨.exit id, s1, d1, g1, ⟨f1, fun n hn => by rw [run n hn]; rfl⟩, R1, hw1, E1, H1⟩
    | ret => exact ⟨.ret, s1, d1, g1, ⟨f1, fun n hn => by rw [run n hn]; rfl⟩, R1, hw1, E1, H1⟩
  | cond cc a b iha ihb =>
    intro s K H c d g hc R
    simp only [wC] at H
    cases hx : vev cc s.e with
    | none => simp only [hx] at H
    | some v =>
      cases v <;> simp only [hx] at H
      rename_i t
      have e1 := (vev_sound R.env hx).bool_inv
      have run : ∀ n, step (.cond cc a b) F (exec F n) c.wm d.e d.nx d.h = cdB (step a) (step b) F (exec F n) c.wm d.e d.nx d.h t := by
        intro n
        show asB (ev cc d.e) .fail (cdB (step a) (step b) F (exec F n) c.wm d.e d.nx d.h) = _
        rw [e1, asB_eq]
      cases t with
      | true =>
        obtain ⟨o1, s1, d1, g1, ⟨f1, r1⟩, R1, hw1, E1, H1⟩ := iha (H.1 rfl) c d g hc R
        exact ⟨o1, s1, d1, g1, ⟨f1, fun n hn => by rw [run]; exact r1 n hn⟩, R1, hw1, E1, H1⟩
      | false =>
        obtain ⟨o1, s1, d1, g1, ⟨f1, r1⟩, R1, hw1, E1, H1⟩ := ihb (H.2 rfl) c d g hc R
        exact ⟨o1, s1, d1, g1, ⟨f1, fun n hn => by rw [run]; exact r1 n hn⟩, R1, hw1, E1, H1⟩
  | block id a iha =>
    intro s K H c d g hc R
    obtain ⟨o1, s1, d1, g1, ⟨f1, r1⟩, R1, hw1, E1, H1⟩ := iha (K := fun o s' => match o with | .norm => K .norm s' | .exit i => if i = id then K .norm s' else K (.exit i) s' | .ret => K .ret s') H c d g hc R
    have run : ∀ n, f1 ≤ n → step (.block id a) F (exec F n) c.wm d.e d.nx d.h = bkO id o1 d1.e d1.nx d1.h := by
      intro n hn
      show Res.rec (motive := fun _ => Res) .fail (bkO id) (step a F (exec F n) c.wm d.e d.nx d.h) = _
      rw [r1 n hn]
    cases o1 with
    | norm => exact ⟨.norm, s1, d1, g1, ⟨f1, fun n hn => by rw [run n hn]; rfl⟩, R1, hw1, E1, H1⟩
    | exit i =>
      simp only at H1
      by_cases hi : i = id
      · rw [if_pos hi] at H1
        refine ⟨.norm, s1, d1, g1, ⟨f1, fun n hn => ?_⟩, R1, hw1, E1, H1⟩
        rw [run n hn]
        show Bool.rec (motive := fun _ => Res) (.ok (.exit i) d1.e d1.nx d1.h) (.ok .norm d1.e d1.nx d1.h) (Nat.beq i id) = _
        rw [show Nat.beq i id = true by rw [Nat.beq_eq]; exact hi]
      · rw [if_neg hi] at H1
        refine ⟨.exit i, s1, d1, g1, ⟨f1, fun n hn => ?_⟩, R1, hw1, E1, H1⟩
        rw [run n hn]
        show Bool.rec (motive := fun _ => Res) (.ok (.exit i) d1.e d1.nx d1.h) (.ok .norm d1.e d1.nx d1.h) (Nat.beq i id) = _
        have : Nat.beq i id = false := by
          cases h : Nat.beq i id with
          | false => rfl
          | true => rw [Nat.beq_eq] at h; exact absurd h hi
        rw [this]
    | ret => exact ⟨.ret, s1, d1, g1, ⟨f1, fun n hn => by rw [run n hn]; rfl⟩, R1, hw1, E1, H1⟩
  | loop lv a iha => intro s K H; exact H
theorem wLoop_of {lv : List P} {a : C} {s : VSt} {K : Out → VSt → Prop} (J : Nat → VSt → Prop) (n : Nat) (h0 : J n s)
    (hstep : ∀ n s, J n s → wC F a ⟨vkeep s.e lv .nl, s.nx, s.w, s.h⟩ (fun o s' => match o with | .norm => ∃ m, m < n ∧ J m s' | .exit i => K (.exit i) s' | .ret => K .ret s')) : wLoop F lv a s K := by
  induction n using Nat.strongRecOn generalizing s with
  | _ n ih =>
    intro c d g hc R
    have R0 : RS c ⟨vkeep s.e lv .nl, s.nx, s.w, s.h⟩ ⟨keep d.e lv .nl, d.nx, d.h⟩ g := ⟨vkeep_sound R.env lv EnvR.nl, R.hp⟩
    obtain ⟨o1, s1, d1, g1, ⟨f1, r1⟩, R1, hw1, E1, H1⟩ := wC_sound (hstep n s h0) c _ g hc R0
    have run : ∀ m, f1 ≤ m → step (.loop lv a) F (exec F m) c.wm d.e d.nx d.h = lpO (.loop lv a) F (exec F m) c.wm o1 d1.e d1.nx d1.h := by
      intro m hm
      show keepK lv d.e .nl (fun e => Res.rec (motive := fun _ => Res) .fail (lpO (.loop lv a) F (exec F m) c.wm) (step a F (exec F m) c.wm e d.nx d.h)) = _
      rw [keepK_eq, r1 m hm]
    cases o1 with
    | norm =>
      obtain ⟨m, hm, hJ⟩ := H1
      obtain ⟨o2, s2, d2, g2, ⟨f2, r2⟩, R2, hw2, E2, H2⟩ := ih m hm hJ c d1 g1 hc R1
      refine ⟨o2, s2, d2, g2, ⟨max f1 (f2 + 1), fun n hn => ?_⟩, R2, hw2.trans hw1, E1.trans E2, H2⟩
      rw [run n (by omega)]
      obtain ⟨n', rfl⟩ : ∃ n', n = n' + 1 := ⟨n - 1, by omega⟩
      exact r2 n' (by omega)
    | exit i => exact ⟨.exit i, s1, d1, g1, ⟨f1, fun n hn => by rw [run n hn]; rfl⟩, R1, hw1, E1, H1⟩
    | ret => exact ⟨.ret, s1, d1, g1, ⟨f1, fun n hn => by rw [run n hn]; rfl⟩, R1, hw1, E1, H1⟩
end
noncomputable section
def vbinds : List P → List VV → VEnv → Option VEnv
  | [], [], e => some e
  | p :: ps, v :: vs, e => vbinds ps vs (Tr.set p e (some v))
  | _, _, _ => none
def vrs1 (r : Rs) (s : VSt) : Option VV :=
  match r with
  | .t p => vov (.t p) s.e
  | .cell p none => match vev (.t p) s.e with
    | some (.fld q o) => (match Tr.get? q s.e with | some (.var l) => l[o]? | _ => none)
    | some (.pt k m o) => (match live s.h k m with | some ob => ob.cells[o]? | none => none)
    | _ => none
  | .cell p (some n) => match vev (.t p) s.e with
    | some (.fld q o) => (match Tr.get? q s.e with | some (.var l) => if o + n ≤ l.length then some (.agg ((l.drop o).take n)) else none | _ => none)
    | some (.pt k m o) => (match live s.h k m with | some ob => if o + n ≤ ob.cells.length then some (.agg ((ob.cells.drop o).take n)) else none | none => none)
    | _ => none
def vrsL : List Rs → VSt → Option (List VV)
  | [], _ => some []
  | r :: l, s => match vrs1 r s with | some v => (match vrsL l s with | some t => some (v :: t) | none => none) | none => none
def vone (vs : List VV) : VV := match vs with | [v] => v | vs => .tup vs
def vres (rs : List Rs) (s : VSt) : Option VV := match vrsL rs s with | some vs => some (vone vs) | none => none
end
section
variable {Z : P → Prop} {h : Hp} {M : Option MM}
theorem vbinds_sound : ∀ {ps : List P} {vs : List VV} {ds : List DV} {e e' : VEnv} {d : Env}, XRs Z h M vs ds → EnvR Z h M e d → vbinds ps vs e = some e' → ∃ d', binds ps ds d = some d' ∧ EnvR Z h M e' d'
  | [], [], ds, e, e', d, x, hE, H => by
    simp only [vbinds, Option.some.injEq] at H; subst H; cases x; exact ⟨d, rfl, hE⟩
  | p :: ps, v :: vs, ds, e, e', d, x, hE, H => by
    simp only [vbinds] at H
    cases x with
    | cons hv hl => exact vbinds_sound (ps := ps) (vs := vs) hl (hE.set hv) H
  | [], _ :: _, ds, e, e', d, x, hE, H => by simp [vbinds] at H
  | _ :: _, [], ds, e, e', d, x, hE, H => by simp [vbinds] at H
end
theorem vrs1_sound {c : Ctx} {s : VSt} {d : DS} {g : Gh} (R : RS c s d g) {r : Rs} {v : VV} (H : vrs1 r s = some v) : ∃ x, rs1v r d.e d.h = some x ∧ XR g.Z d.h (mm s.nx s.h g) v x := by
  cases r with
  | t p =>
    refine ⟨_, rfl, ?_⟩
    exact vov_sound (o := .t p) R.env H
  | cell p n =>
    have main : ∀ (l : List VV) (l' : List DV) (o : Nat), Dx.look (evT p d.e) d.e d.h = some (l', o) → XRs g.Z d.h (mm s.nx s.h g) l ((l'.drop 0)) → True := fun _ _ _ _ _ => trivial
    cases n with
    | none =>
      simp only [vrs1] at H
      cases hp : vev (.t p) s.e with
      | none => simp only [hp, reduceCtorEq] at H
      | some u =>
        have hx : XR g.Z d.h (mm s.nx s.h g) u (evT p d.e) := vev_sound (o := .t p) R.env hp
        cases u <;> simp only [hp, reduceCtorEq] at H
        case fld q o =>
          cases hq : Tr.get? q s.e with
          | none => simp only [hq, reduceCtorEq] at H
          | some y =>
            cases y <;> simp only [hq, reduceCtorEq] at H
            obtain ⟨z, hz, hzz⟩ := R.env.get hq
            obtain ⟨l', rfl, hl⟩ := hzz.var_inv
            obtain ⟨x, h1, h2⟩ := hl.get _ _ H
            refine ⟨x, ?_, h2⟩
            simp only [rs1v, hx.fld_inv, look_var hz, h1]
        case pt k m o =>
          cases hl : live s.h k m with
          | none => simp only [hl, reduceCtorEq] at H
          | some ob =>
            simp only [hl] at H
            obtain ⟨r, b, q, cells, hxx, e1, e2, e3, e4, e5, e6, e7, e8⟩ := pt_blk R hl hx
            obtain ⟨x, h1, h2⟩ := (VOb.m_any e8).get _ _ H
            refine ⟨x, ?_, h2⟩
            simp only [rs1v, hxx, look_cells e6, cut_get h1]
    | some n =>
      simp only [vrs1] at H
      cases hp : vev (.t p) s.e with
      | none => simp only [hp, reduceCtorEq] at H
      | some u =>
        have hx : XR g.Z d.h (mm s.nx s.h g) u (evT p d.e) := vev_sound (o := .t p) R.env hp
        cases u <;> simp only [hp, reduceCtorEq] at H
        case fld q o =>
          cases hq : Tr.get? q s.e with
          | none => simp only [hq, reduceCtorEq] at H
          | some y =>
            cases y <;> simp only [hq, reduceCtorEq] at H
            rename_i l
            obtain ⟨z, hz, hzz⟩ := R.env.get hq
            obtain ⟨l', rfl, hl⟩ := hzz.var_inv
            have hlen := hl.length
            by_cases hle : o + n ≤ l.length
            · rw [if_pos hle] at H; cases H
              refine ⟨.agg ((l'.drop o).take n), ?_, .agg ((hl.drop o).take n)⟩
              simp only [rs1v, hx.fld_inv, look_var hz]
              rw [if_pos ⟨by omega, by rw [List.length_drop]; omega⟩]
            · rw [if_neg hle] at H; cases H
        case pt k m o =>
          cases hl : live s.h k m with
          | none => simp only [hl, reduceCtorEq] at H
          | some ob =>
            simp only [hl] at H
            obtain ⟨r, b, q, cells, hxx, e1, e2, e3, e4, e5, e6, e7, e8⟩ := pt_blk R hl hx
            by_cases hle : o + n ≤ ob.cells.length
            · rw [if_pos hle] at H; cases H
              refine ⟨.agg ((cells.drop (q + o)).take n), ?_, .agg ?_⟩
              · simp only [rs1v, hxx, look_cells e6]
                rw [if_pos ⟨by omega, by rw [List.length_drop]; omega⟩]
              · have := ((VOb.m_any e8).drop o).take n
                rw [cut_cut _ (by omega)] at this
                exact this
            · rw [if_neg hle] at H; cases H
theorem vrsL_sound {c : Ctx} {s : VSt} {d : DS} {g : Gh} (R : RS c s d g) : ∀ {rs : List Rs} {vs : List VV}, vrsL rs s = some vs → ∃ xs, rsv d.e d.h rs = some xs ∧ XRs g.Z d.h (mm s.nx s.h g) vs xs
  | [], vs, H => by simp only [vrsL, Option.some.injEq] at H; subst H; exact ⟨[], rfl, .nil⟩
  | r :: rs, vs, H => by
    simp only [vrsL] at H
    cases h1 : vrs1 r s with
    | none => simp only [h1, reduceCtorEq] at H
    | some v =>
      simp only [h1] at H
      cases h2 : vrsL rs s with
      | none => simp only [h2, reduceCtorEq] at H
      | some t =>
        simp only [h2, Option.some.injEq] at H; subst H
        obtain ⟨x, h3, h4⟩ := vrs1_sound R h1
        obtain ⟨xs, h5, h6⟩ := vrsL_sound R h2
        exact ⟨x :: xs, by simp only [rsv, h3, h5, Option.map_some], .cons h4 h6⟩
theorem vone_sound {Z : P → Prop} {h : Hp} {M : Option MM} {vs : List VV} {xs : List DV} (x : XRs Z h M vs xs) : XR Z h M (vone vs) (one xs) := by
  cases x with
  | nil => exact .tup .nil
  | cons h1 t1 =>
    cases t1 with
    | nil => exact h1
    | cons h2 t2 => exact .tup (.cons h1 (.cons h2 t2))
def FSem (F : Tr Fd) (f : P) (args : List VV) (nx : Nat) (h : VHp) (R : VV → Nat → VHp → Prop) : Prop :=
  ∀ (c : Ctx) (dnx : P) (dh : Hp) (g : Gh) (ds : List DV), c.wm = c.wm0 → HpR c nx 0 h dnx dh g → XRs g.Z dh (mm nx h g) args ds →
    ∃ r nx' h' x dnx' dh' g', (∃ fuel, ∀ n, fuel ≤ n → ∀ (e0 : Env) (k : Kv), callK F (exec F n) c.wm f ds e0 dnx dh k = k e0 x dnx' dh') ∧
      HpR c nx' 0 h' dnx' dh' g' ∧ XR g'.Z dh' (mm nx' h' g') r x ∧ Evo nx h dnx dh g nx' h' dnx' dh' g' ∧ R r nx' h'
def retK (rs : List Rs) (R : VV → Nat → VHp → Prop) (o : Out) (s : VSt) : Prop :=
  match o with
  | .exit _ => False
  | _ => match vres rs s with | some r => R r s.nx s.h | none => False
theorem fsem_of_body {F : Tr Fd} {f : P} {ps : List P} {body : C} {rs : List Rs} {args : List VV} {nx : Nat} {h : VHp} {R : VV → Nat → VHp → Prop} {e : VEnv}
    (hf : Tr.get? f F = some (.mk ps body rs)) (he : vbinds ps args .nl = some e) (H : wC F body ⟨e, nx, 0, h⟩ (retK rs R)) : FSem F f args nx h R := by
  intro c dnx dh g ds hc hR hx
  obtain ⟨d, hb, hE⟩ := vbinds_sound hx EnvR.nl he
  obtain ⟨o, s', d', g', ⟨fuel, hrun⟩, R', hw, E, hK⟩ := wC_sound H c ⟨d, dnx, dh⟩ g hc ⟨hE, hR⟩
  have main : ∀ r, vres rs s' = some r → R r s'.nx s'.h → (o = .norm ∨ o = .ret) → ∃ r nx' h' x dnx' dh' g', (∃ fuel, ∀ n, fuel ≤ n → ∀ (e0 : Env) (k : Kv), callK F (exec F n) c.wm f ds e0 dnx dh k = k e0 x dnx' dh') ∧
      HpR c nx' 0 h' dnx' dh' g' ∧ XR g'.Z dh' (mm nx' h' g') r x ∧ Evo nx h dnx dh g nx' h' dnx' dh' g' ∧ R r nx' h' := by
    intro r hr hRr ho
    unfold vres at hr
    cases hv : vrsL rs s' with
    | none => simp only [hv, reduceCtorEq] at hr
    | some vs =>
      simp only [hv, Option.some.injEq] at hr; subst hr
      obtain ⟨xs, h1, h2⟩ := vrsL_sound R' hv
      have hh : s'.w = 0 := hw
      refine ⟨_, s'.nx, s'.h, one xs, d'.nx, d'.h, g', ⟨fuel + 1, fun n hn e0 k => ?_⟩, by have := R'.hp; rw [hh] at this; exact this, vone_sound h2, E, hRr⟩
      obtain ⟨n, rfl⟩ : ∃ m, n = m + 1 := ⟨n - 1, by omega⟩
      show Option.rec (motive := fun _ => Res) .fail (callF (exec F (n + 1)) c.wm ds e0 dnx dh k) (Tr.get? f F) = _
      rw [hf]
      show bindK ps ds .nl (fun e => retR (exec F (n + 1) body c.wm e dnx dh) rs e0 k) = _
      rw [bindK_eq, hb]
      show retR (step body F (exec F n) c.wm d dnx dh) rs e0 k = _
      rw [hrun n (by omega)]
      have : retE rs e0 k d'.e d'.nx d'.h = k e0 (one xs) d'.nx d'.h := by
        show rsL rs d'.e d'.h (fun vs => oneK vs fun v => fV v fun v => k e0 v d'.nx d'.h) = _
        rw [rsL_eq, h1]
        show oneK xs (fun v => fV v fun v => k e0 v d'.nx d'.h) = _
        rw [oneK_eq, fV_eq]
      rcases ho with rfl | rfl <;> exact this
  unfold retK at hK
  cases o with
  | exit i => exact hK.elim
  | norm =>
    simp only at hK
    cases hr : vres rs s' with
    | none => simp only [hr] at hK
    | some r => simp only [hr] at hK; exact main r hr hK (.inl rfl)
  | ret =>
    simp only at hK
    cases hr : vres rs s' with
    | none => simp only [hr] at hK
    | some r => simp only [hr] at hK; exact main r hr hK (.inr rfl)
def VPure (F : Tr Fd) (f : P) (args : List VV) (r : VV) : Prop := FSem F f args 0 [] fun r' _ _ => r' = r
theorem FSem.mono {F : Tr Fd} {f : P} {args : List VV} {nx : Nat} {h : VHp} {R R' : VV → Nat → VHp → Prop} (H : FSem F f args nx h R) (hR : ∀ r n h, R r n h → R' r n h) : FSem F f args nx h R' := by
  intro c dnx dh g ds hc hH hx
  obtain ⟨r, nx', h', x, dnx', dh', g', a, b, cc, d, e⟩ := H c dnx dh g ds hc hH hx
  exact ⟨r, nx', h', x, dnx', dh', g', a, b, cc, d, hR _ _ _ e⟩
theorem FSem.view {F : Tr Fd} {f : P} {args : List VV} {nx : Nat} {h : VHp} {r : VV} (H : FSem F f args nx h fun r' _ h' => vw h' r' = some r) : FSem F f args nx h fun r' _ _ => r' = r := by
  intro c dnx dh g ds hc hH hx
  obtain ⟨r', nx', h', x, dnx', dh', g', a, b, cc, d, e⟩ := H c dnx dh g ds hc hH hx
  obtain ⟨R1, E1⟩ := b.freeze (keysV r') (zOf h' g' (keysV r')) fun b => Iff.rfl
  exact ⟨r, nx', _, x, dnx', dh', ⟨zOf h' g' (keysV r'), g'.μ⟩, a, R1, (vw_sound b cc e fun k h => h).none_any, d.trans E1, rfl⟩
def retV (rs : List Rs) (r : VV) (o : Out) (s : VSt) : Prop :=
  match o with
  | .exit _ => False
  | _ => match vres rs s with | some r' => vw s.h r' = some r | none => False
theorem vpure_of_body {F : Tr Fd} {f : P} {ps : List P} {body : C} {rs : List Rs} {args : List VV} {r : VV} {e : VEnv}
    (hf : Tr.get? f F = some (.mk ps body rs)) (he : vbinds ps args .nl = some e) (H : wC F body ⟨e, 0, 0, []⟩ (retV rs r)) : VPure F f args r := by
  refine FSem.view (fsem_of_body hf he (R := fun r' _ h' => vw h' r' = some r) ?_)
  have : retK rs (fun r' _ h' => vw h' r' = some r) = retV rs r := by
    funext o s; cases o <;> rfl
  rw [this]; exact H
section
variable {F : Tr Fd} {f : P} {args : List VV} {s : VSt} {K : VSt → VV → Prop}
theorem wCall_freeze {args' : List VV} (hv : vwL s.h args = some args') (H : wCall F f args' ⟨s.e, s.nx, s.w, hdels s.h (keysL args)⟩ K) : wCall F f args s K := by
  intro c d g ds R hx
  obtain ⟨R1, E1⟩ := R.hp.freeze (keysL args) (zOf s.h g (keysL args)) fun b => Iff.rfl
  have hx1 := vwL_sound R.hp hx hv (ks := keysL args) fun k h => h
  obtain ⟨s', v, d', x, g', hrun, R', hw, hxr, E, hK⟩ := H c d ⟨zOf s.h g (keysL args), g.μ⟩ ds ⟨E1.env R.env, R1⟩ hx1.none_any
  exact ⟨s', v, d', x, g', hrun, R', hw, hxr, E1.trans E, hK⟩
mutual
theorem vw_pure (h : VHp) : ∀ (v : VV), pureV v = true → vw h v = some v
  | .ow _ _ _, hp => by simp [pureV] at hp
  | .pt _ _ _, hp => by simp [pureV] at hp
  | .os _ _ _ _ _, hp => by simp [pureV] at hp
  | .var _, hp => by simp [pureV] at hp
  | .fld _ _, hp => by simp [pureV] at hp
  | .fn f cs, hp => by simp only [pureV] at hp; simp only [vw, vwL_pure h cs hp]
  | .ifc t v, hp => by simp only [pureV] at hp; simp only [vw, vw_pure h v hp]
  | .agg l, hp => by simp only [pureV] at hp; simp only [vw, vwL_pure h l hp]
  | .tup l, hp => by simp only [pureV] at hp; simp only [vw, vwL_pure h l hp]
  | .unk, _ => rfl | .bool _, _ => rfl | .int _ _, _ => rfl | .nilp, _ => rfl | .nils, _ => rfl | .nilf, _ => rfl | .nili, _ => rfl | .nilm, _ => rfl
  | .fz _ _ _ _, _ => rfl | .fp _ _, _ => rfl
theorem vwL_pure (h : VHp) : ∀ (l : List VV), pureL l = true → vwL h l = some l
  | [], _ => rfl
  | v :: l, hp => by simp only [pureL, Bool.and_eq_true] at hp; simp only [vwL, vw_pure h v hp.1, vwL_pure h l hp.2]
end
theorem wCall_pure {args' : List VV} {r : VV} (hv : vwL s.h args = some args') (hp : VPure F f args' r) (hr : pureV r = true) (hs : scal r = true ∨ pureL args = true) (hK : K s r) : wCall F f args s K := by
  intro c d g ds R hx
  obtain ⟨Z1, hZ1, hlt, hx1⟩ : ∃ Z1 : P → Prop, (∀ b, g.Z b → Z1 b) ∧ (∀ b, Z1 b → b.n < d.nx.n) ∧ XRs Z1 d.h none args' ds ∧ (scal r = true ∨ Z1 = g.Z) := by
    rcases hs with hs | hs
    · refine ⟨zOf s.h g (keysL args), fun b h => .inl h, fun b hb => ?_, vwL_sound R.hp hx hv fun k h => h, .inl hs⟩
      rcases hb with hb | ⟨k, _, o, r', q, h1, h2, h3⟩
      · exact R.hp.zlt b hb
      · exact R.hp.lt h1 h2 h3
    · have e : vwL s.h args = some args := vwL_pure s.h args hs
      rw [e] at hv; cases hv
      exact ⟨g.Z, fun _ h => h, R.hp.zlt, hx.pure hs, .inr rfl⟩
  obtain ⟨hx1, hcase⟩ := hx1
  have hR0 : HpR ⟨c.wm, c.wm, d.nx, d.h, Z1, fun _ => False⟩ 0 0 [] d.nx d.h ⟨Z1, fun _ => none⟩ := {
    blk := fun k o h => by cases h
    own := fun k o r b q h => by cases h
    inj := fun k k' o o' r r' b q q' h => by cases h
    zlt := hlt
    zold := fun b h => .inl h
    top := R.hp.top
    keep := fun _ _ _ => rfl
    le := Nat.le_refl _
    wm := R.hp.wm
    wf := fun m hm => ⟨R.hp.wm m hm, fun b h => h.elim⟩ }
  obtain ⟨r', nx', h', x, dnx', dh', g', hrun, R1, hxr, E1, rfl⟩ := hp _ d.nx d.h _ ds rfl hR0 hx1.none_any
  have hkeep : ∀ b : P, b.n < d.nx.n → Tr.get? b dh' = Tr.get? b d.h := fun b hb => R1.keep b hb (fun h => h)
  obtain ⟨Zf, hzf, hzn, hxf⟩ : ∃ Zf : P → Prop, (∀ b, g.Z b → Zf b) ∧ (∀ b, Zf b → g.Z b ∨ (d.nx.n ≤ b.n ∧ b.n < dnx'.n)) ∧ ∀ M, XR Zf dh' M r' x := by
    rcases hcase with hs | rfl
    · exact ⟨g.Z, fun _ h => h, fun _ h => .inl h, fun M => hxr.scal hs⟩
    · refine ⟨g'.Z, E1.z, fun b hb => ?_, fun M => (hxr.pure hr).none_any⟩
      rcases R1.zold b hb with h | h | h
      · exact .inl h
      · exact .inr ⟨h, R1.zlt b hb⟩
      · exact h.elim
  have hm : MLe (mm s.nx s.h g) (mm s.nx s.h ⟨Zf, g.μ⟩) := MLe.refl _
  have ho : ∀ b, g.Z b → objAt b dh' = objAt b d.h := fun b hb => objAt_of (hkeep b (R.hp.zlt b hb))
  have E : Evo s.nx s.h d.nx d.h g s.nx s.h dnx' dh' ⟨Zf, g.μ⟩ := ⟨hm, hzf, ho, E1.nx⟩
  refine ⟨s, r', ⟨d.e, dnx', dh'⟩, x, ⟨Zf, g.μ⟩, ⟨rfl, hrun⟩, ⟨E.env R.env, ?_⟩, rfl, hxf _, E, hK⟩
  constructor
  · intro k o hk
    obtain ⟨h1, r1, e1, B1⟩ := R.hp.blk k o hk
    exact ⟨h1, r1, e1, B1.mono hzf ho hm fun b q hb => hkeep b (R.hp.lt hk e1 hb)⟩
  · intro k o r1 b q hk hr1 hb
    obtain ⟨a1, a2, a3⟩ := R.hp.own k o r1 b q hk hr1 hb
    refine ⟨fun h => ?_, a2, a3⟩
    rcases hzn b h with h | h
    · exact a1 h
    · have := R.hp.lt hk hr1 hb; omega
  · exact R.hp.inj
  · intro b hb
    rcases hzn b hb with h | h
    · exact Nat.lt_of_lt_of_le (R.hp.zlt b h) E1.nx
    · exact h.2
  · intro b hb
    rcases hzn b hb with h | h
    · exact R.hp.zold b h
    · exact .inr (.inl (Nat.le_trans R.hp.le h.1))
  · exact R1.top
  · intro b hb hn
    rw [hkeep b (Nat.lt_of_lt_of_le hb R.hp.le)]; exact R.hp.keep b hb hn
  · exact Nat.le_trans R.hp.le E1.nx
  · intro m hm; exact Nat.le_trans (R.hp.wm m hm) E1.nx
  · exact R.hp.wf
theorem wCall_any {args' : List VV} {r : VV} {b : Bool} (hv : vwL s.h args = some args') (hp : VPure F f args' r) (hr : pureV r = true) (ha : pureL args' = true) (hb : (scal r || pureL args) = b) (hK : K (cond b s ⟨s.e, s.nx, s.w, hdels s.h (keysL args)⟩) r) : wCall F f args s K := by
  cases b with
  | true => exact wCall_pure hv hp hr (by rw [Bool.or_eq_true] at hb; exact hb) hK
  | false => exact wCall_freeze hv (wCall_pure (vwL_pure _ _ ha) hp hr (.inr ha) hK)
mutual
theorem XR.ext {Z : P → Prop} {h : Hp} {N N' : Nat} {f f' : Nat → Option (Nat × DV)} (hN : N ≤ N') : ∀ {v : VV} {d : DV}, (∀ k ∈ keysV v, f' k = f k) → XR Z h (some (N, f)) v d → XR Z h (some (N', f')) v d
  | _, _, _, .unk hd => .unk hd
  | _, _, _, .bool b => .bool b
  | _, _, _, .int k n => .int k n
  | _, _, _, .nilp => .nilp
  | _, _, _, .nils => .nils
  | _, _, _, .nilf => .nilf
  | _, _, _, .nili => .nili
  | _, _, _, .nilm => .nilm
  | _, _, _, .fz0 hc => .fz0 hc
  | _, _, _, .fz hn hz hk ho hl hc hx => .fz hn hz hk ho hl hc hx
  | _, _, _, .fp hz hk ho hl => .fp hz hk ho hl
  | _, _, he, .ow hd hk hf => .ow hd (Nat.lt_of_lt_of_le hk hN) fun m r e => hf m r (by rw [← he _ (List.mem_singleton.2 rfl)]; exact e)
  | _, _, he, .pt hd hk hf => .pt hd (Nat.lt_of_lt_of_le hk hN) fun m r e => hf m r (by rw [← he _ (List.mem_singleton.2 rfl)]; exact e)
  | _, _, he, .os hd hk hf => .os hd (Nat.lt_of_lt_of_le hk hN) fun m r e => hf m r (by rw [← he _ (List.mem_singleton.2 rfl)]; exact e)
  | _, _, he, .fn hl => .fn (XRs.ext hN (fun k hk => he k (by simpa [keysV] using hk)) hl)
  | _, _, he, .ifc hv => .ifc (XR.ext hN (fun k hk => he k (by simpa [keysV] using hk)) hv)
  | _, _, he, .agg hl => .agg (XRs.ext hN (fun k hk => he k (by simpa [keysV] using hk)) hl)
  | _, _, he, .tup hl => .tup (XRs.ext hN (fun k hk => he k (by simpa [keysV] using hk)) hl)
  | _, _, he, .var hl => .var (XRs.ext hN (fun k hk => he k (by simpa [keysV] using hk)) hl)
  | _, _, _, .fld p o => .fld p o
theorem XRs.ext {Z : P → Prop} {h : Hp} {N N' : Nat} {f f' : Nat → Option (Nat × DV)} (hN : N ≤ N') : ∀ {l : List VV} {l' : List DV}, (∀ k ∈ keysL l, f' k = f k) → XRs Z h (some (N, f)) l l' → XRs Z h (some (N', f')) l l'
  | _, _, _, .nil => .nil
  | _, _, he, .cons hv hl => .cons (XR.ext hN (fun k hk => he k (by simp [keysL, hk])) hv) (XRs.ext hN (fun k hk => he k (by simp [keysL, hk])) hl)
end
def okeys : VOb → List Nat | .row _ => [] | .obj l => keysL l
def hkeys : VHp → List Nat
  | [] => []
  | (k, _) :: t => k :: hkeys t
theorem hget_hkeys : ∀ {h : VHp} {k : Nat} {o : VOb}, hget h k = some o → k ∈ hkeys h
  | [], k, o, e => by cases e
  | (j, x) :: t, k, o, e => by
    simp only [hget] at e
    by_cases hk : k = j
    · subst hk; exact List.mem_cons_self
    · rw [if_neg hk] at e; exact List.mem_cons_of_mem _ (hget_hkeys e)
theorem hkeys_hget : ∀ {h : VHp} {k : Nat}, k ∈ hkeys h → ∃ o, hget h k = some o
  | [], k, e => by cases e
  | (j, x) :: t, k, e => by
    simp only [hget]
    by_cases hk : k = j
    · rw [if_pos hk]; exact ⟨x, rfl⟩
    · rw [if_neg hk]
      rcases List.mem_cons.1 e with h | h
      · exact absurd h hk
      · exact hkeys_hget h
def closed (h : VHp) (ks : List Nat) : Prop := ∀ k ∈ ks, k ∈ hkeys h
def closedH (h : VHp) : Prop := ∀ k o, hget h k = some o → closed h (okeys o)
theorem wCall_heap {hin : VHp} {R : VV → Nat → VHp → Prop} (hp : FSem F f args s.nx hin R) (hsub : ∀ k o, hget hin k = some o → hget s.h k = some o ∧ s.w ≤ k)
    (hcl : ∀ r nx' h', R r nx' h' → closed h' (keysV r) ∧ closedH h')
    (hK : ∀ r nx' h', R r nx' h' → s.nx ≤ nx' → K ⟨s.e, nx', s.w, h' ++ hdels s.h (hkeys hin)⟩ r) : wCall F f args s K := by
  intro c d g ds R0 hx
  obtain ⟨Rs, Es⟩ := R0.hp.sub (vh' := hin) fun k o h => (hsub k o h).1
  let own0 : P → Prop := fun b => ∃ k o r q, hget hin k = some o ∧ g.μ k = some r ∧ refAt r = some (b, q)
  have hmay : ∀ b, own0 b → ∀ m, c.wm = some m → m.n ≤ b.n := by
    rintro b ⟨k, o, r, q, h1, h2, h3⟩ m hm
    exact (R0.hp.own k o r b q (hsub k o h1).1 h2 h3).2.2 (hsub k o h1).2 m hm
  have hR0 : HpR ⟨c.wm, c.wm, d.nx, d.h, g.Z, own0⟩ s.nx 0 hin d.nx d.h g := {
    blk := Rs.blk
    own := fun k o r b q hk hr hb => ⟨(Rs.own k o r b q hk hr hb).1, .inr ⟨k, o, r, q, hk, hr, hb⟩, fun _ => hmay b ⟨k, o, r, q, hk, hr, hb⟩⟩
    inj := Rs.inj
    zlt := Rs.zlt
    zold := fun b h => .inl h
    top := Rs.top
    keep := fun _ _ _ => rfl
    le := Nat.le_refl _
    wm := R0.hp.wm
    wf := fun m hm => ⟨R0.hp.wm m hm, fun b h => hmay b h m hm⟩ }
  obtain ⟨r, nx', h', x, dnx', dh', g', hrun, R1, hxr, E1, hR⟩ := hp _ d.nx d.h g ds rfl hR0 (Es.xrs hx)
  obtain ⟨hc1, hc2⟩ := hcl r nx' h' hR
  have hK' := hK r nx' h' hR E1.m.1
  let μ2 : Nat → Option DV := fun k => match hget h' k with | some _ => g'.μ k | none => g.μ k
  let vh2 : VHp := h' ++ hdels s.h (hkeys hin)
  let g2 : Gh := ⟨g'.Z, μ2⟩
  have get_new : ∀ k o, hget h' k = some o → hget vh2 k = some o ∧ μ2 k = g'.μ k := by
    intro k o h
    exact ⟨by show hget (h' ++ _) k = _; rw [hget_append, h], by show (match hget h' k with | some _ => g'.μ k | none => g.μ k) = _; rw [h]⟩
  have get_old : ∀ k, hget h' k = none → μ2 k = g.μ k ∧ ∀ o, hget vh2 k = some o → hget s.h k = some o ∧ k ∉ hkeys hin := by
    intro k h
    refine ⟨by show (match hget h' k with | some _ => g'.μ k | none => g.μ k) = _; rw [h], fun o ho => ?_⟩
    have ho : hget (h' ++ hdels s.h (hkeys hin)) k = some o := ho
    rw [hget_append, h] at ho
    change hget (hdels s.h (hkeys hin)) k = some o at ho
    rw [hget_dels] at ho
    by_cases hk : k ∈ hkeys hin
    · rw [if_pos hk] at ho; cases ho
    · rw [if_neg hk] at ho; exact ⟨ho, hk⟩
  have rest_not : ∀ k o r b q, hget s.h k = some o → k ∉ hkeys hin → g.μ k = some r → refAt r = some (b, q) → ¬ own0 b := by
    rintro k o r b q h1 h2 h3 h4 ⟨k', o', r', q', e1, e2, e3⟩
    have := R0.hp.inj k k' o o' r r' b q q' h1 (hsub k' o' e1).1 h3 e2 h4 e3
    subst this
    exact h2 (hget_hkeys e1)
  have hmeq : ∀ k, k ∈ hkeys h' → mof vh2 μ2 k = mof h' g'.μ k := by
    intro k hk
    obtain ⟨o, ho⟩ := hkeys_hget hk
    obtain ⟨e1, e2⟩ := get_new k o ho
    unfold mof; rw [e1, e2, ho]
  have hm : MLe (mm s.nx s.h g) (mm nx' vh2 g2) := by
    refine ⟨E1.m.1, fun k hk m' r' e => ?_⟩
    obtain ⟨o, h1, h2, h3⟩ := mof_some e
    cases h4 : hget h' k with
    | some o' =>
      obtain ⟨e1, e2⟩ := get_new k o' h4
      rw [e1] at h1; cases h1
      have h2' : μ2 k = some r' := h2
      rw [e2] at h2'
      obtain ⟨m, r0, a1, a2, a3⟩ := E1.m.2 k hk m' r' (by rw [mof_eq h4 h2', h3])
      obtain ⟨o0, b1, b2, b3⟩ := mof_some a1
      exact ⟨m, r0, by rw [mof_eq (hsub k o0 b1).1 b2, b3], a2, a3⟩
    | none =>
      obtain ⟨e1, e2⟩ := get_old k h4
      have h2' : μ2 k = some r' := h2
      rw [e1] at h2'
      exact ⟨m', r', by rw [mof_eq (e2 o h1).1 h2', h3], Nat.le_refl _, fun _ => rfl⟩
  have E : Evo s.nx s.h d.nx d.h g nx' vh2 dnx' dh' g2 := ⟨hm, E1.z, E1.o, E1.nx⟩
  have hxf : XR g2.Z dh' (mm nx' vh2 g2) r x := XR.ext (Nat.le_refl _) (fun k hk => hmeq k (hc1 k hk)) hxr
  refine ⟨⟨s.e, nx', s.w, vh2⟩, r, ⟨d.e, dnx', dh'⟩, x, g2, ⟨rfl, hrun⟩, ⟨E.env R0.env, ?_⟩, rfl, hxf, E, hK'⟩
  constructor
  · intro k o hk
    cases h4 : hget h' k with
    | some o' =>
      obtain ⟨e1, e2⟩ := get_new k o' h4
      rw [e1] at hk; cases hk
      obtain ⟨b1, r1, b2, B⟩ := R1.blk k o h4
      refine ⟨b1, r1, e2.trans b2, ?_⟩
      have conv : ∀ l', XRs g'.Z dh' (o.m (mm nx' h' g')) o.cells l' → XRs g2.Z dh' (o.m (mm nx' vh2 g2)) o.cells l' := by
        intro l' hl
        cases o with
        | row l => exact hl
        | obj l => exact XRs.ext (Nat.le_refl _) (fun k' hk' => hmeq k' (hc2 k (.obj l) h4 k' hk')) hl
      rcases B with ⟨h1, h2⟩ | ⟨b, q, n, cp, sz, cells, h1, h2, h3, h5, h6, h7⟩ | ⟨b, q, cells, h1, h2, h3, h7⟩
      · exact .inl ⟨h1, h2⟩
      · exact .inr (.inl ⟨b, q, n, cp, sz, cells, h1, h2, h3, h5, h6, conv _ h7⟩)
      · exact .inr (.inr ⟨b, q, cells, h1, h2, h3, conv _ h7⟩)
    | none =>
      obtain ⟨e1, e2⟩ := get_old k h4
      obtain ⟨h1, hn⟩ := e2 o hk
      obtain ⟨b1, r1, b2, B⟩ := R0.hp.blk k o h1
      refine ⟨Nat.lt_of_lt_of_le b1 E1.m.1, r1, e1.trans b2, B.mono E1.z E1.o hm fun b q hb => ?_⟩
      exact R1.keep b (R0.hp.lt h1 b2 hb) (rest_not k o r1 b q h1 hn b2 hb)
  · intro k o r1 b q hk hr1 hb
    cases h4 : hget h' k with
    | some o' =>
      obtain ⟨e1, e2⟩ := get_new k o' h4
      have hr1' : μ2 k = some r1 := hr1
      rw [e2] at hr1'
      obtain ⟨a1, a2, a3⟩ := R1.own k o' r1 b q h4 hr1' hb
      refine ⟨a1, ?_, fun _ => a3 (Nat.zero_le _)⟩
      rcases a2 with h | ⟨k0, o0, r0, q0, h1, h2, h3⟩
      · exact .inl (Nat.le_trans R0.hp.le h)
      · exact (R0.hp.own k0 o0 r0 b q0 (hsub k0 o0 h1).1 h2 h3).2.1
    | none =>
      obtain ⟨e1, e2⟩ := get_old k h4
      obtain ⟨h1, hn⟩ := e2 o hk
      have hr1' : μ2 k = some r1 := hr1
      rw [e1] at hr1'
      obtain ⟨a1, a2, a3⟩ := R0.hp.own k o r1 b q h1 hr1' hb
      refine ⟨fun hz => ?_, a2, a3⟩
      rcases R1.zold b hz with h | h | h
      · exact a1 h
      · have := R0.hp.lt h1 hr1' hb; have h : d.nx.n ≤ b.n := h; omega
      · exact rest_not k o r1 b q h1 hn hr1' hb h
  · intro k k' o o' r1 r2 b q1 q2 hk hk' hr1 hr2 hb hb'
    have hr1' : μ2 k = some r1 := hr1
    have hr2' : μ2 k' = some r2 := hr2
    have cross : ∀ k k' o o' r1 r2 q1 q2, hget h' k = some o → hget h' k' = none → hget vh2 k' = some o' → μ2 k = some r1 → μ2 k' = some r2 → refAt r1 = some (b, q1) → refAt r2 = some (b, q2) → False := by
      intro k k' o o' r1 r2 q1 q2 h4 h5 hk' hr1 hr2 hb hb'
      obtain ⟨_, e2⟩ := get_new k o h4
      rw [e2] at hr1
      obtain ⟨e3, e4⟩ := get_old k' h5
      obtain ⟨h1, hn⟩ := e4 o' hk'
      rw [e3] at hr2
      rcases (R1.own k o r1 b q1 h4 hr1 hb).2.1 with h | h
      · have := R0.hp.lt h1 hr2 hb'; have h : d.nx.n ≤ b.n := h; omega
      · exact rest_not k' o' r2 b q2 h1 hn hr2 hb' h
    cases h4 : hget h' k with
    | some o1 =>
      cases h5 : hget h' k' with
      | some o2 =>
        rw [(get_new k o1 h4).2] at hr1'
        rw [(get_new k' o2 h5).2] at hr2'
        exact R1.inj k k' o1 o2 r1 r2 b q1 q2 h4 h5 hr1' hr2' hb hb'
      | none => exact (cross k k' o1 o' r1 r2 q1 q2 h4 h5 hk' hr1' hr2' hb hb').elim
    | none =>
      cases h5 : hget h' k' with
      | some o2 => exact (cross k' k o2 o r2 r1 q2 q1 h5 h4 hk hr2' hr1' hb' hb).elim
      | none =>
        obtain ⟨e1, e2⟩ := get_old k h4
        obtain ⟨e3, e4⟩ := get_old k' h5
        rw [e1] at hr1'; rw [e3] at hr2'
        exact R0.hp.inj k k' o o' r1 r2 b q1 q2 (e2 o hk).1 (e4 o' hk').1 hr1' hr2' hb hb'
  · exact R1.zlt
  · intro b hb
    rcases R1.zold b hb with h | h | ⟨k0, o0, r0, q0, h1, h2, h3⟩
    · exact R0.hp.zold b h
    · exact .inr (.inl (Nat.le_trans R0.hp.le h))
    · exact .inr (R0.hp.own k0 o0 r0 b q0 (hsub k0 o0 h1).1 h2 h3).2.1
  · exact R1.top
  · intro b hb hn
    rw [R1.keep b (Nat.lt_of_lt_of_le hb R0.hp.le) ?_]
    · exact R0.hp.keep b hb hn
    · rintro ⟨k0, o0, r0, q0, h1, h2, h3⟩
      rcases (R0.hp.own k0 o0 r0 b q0 (hsub k0 o0 h1).1 h2 h3).2.1 with h | h
      · omega
      · exact hn h
  · exact Nat.le_trans R0.hp.le E1.nx
  · intro m hm'; exact Nat.le_trans (R0.hp.wm m hm') E1.nx
  · exact R0.hp.wf
end
noncomputable section
def kOs (F : Tr Fd) (l : List Op) (K : VSt → Prop) : VSt → Prop := fun s => wOs F l s K
def kDs (F : Tr Fd) (l : List Dop) (K : VSt → Prop) : VSt → Prop := fun s => wDs F l s K
def kPut (dst : Option P) (K : VSt → Prop) : VSt → VV → Prop := fun s v => K (vput dst v s)
def kBack (b : List P) (e : VEnv) (w : Nat) (K : VSt → Prop) : VSt → Prop := fun s1 => K ⟨vback s1.e b e, s1.nx, w, s1.h⟩
def kSeq (F : Tr Fd) (b : C) (K : Out → VSt → Prop) : Out → VSt → Prop := fun o s' => match o with | .norm => wC F b s' K | .exit i => K (.exit i) s' | .ret => K .ret s'
def kBlk (id : Nat) (K : Out → VSt → Prop) : Out → VSt → Prop := fun o s' => match o with | .norm => K .norm s' | .exit i => if i = id then K .norm s' else K (.exit i) s' | .ret => K .ret s'
end
section
variable (F : Tr Fd) (s : VSt) (v : VV)
theorem eOs_n (K : VSt → Prop) : wOs F [] s K = K s := rfl
theorem eOs_c (o : Op) (l : List Op) (K : VSt → Prop) : wOs F (o :: l) s K = wO F o s (kOs F l K) := rfl
theorem eDs_n (K : VSt → Prop) : wDs F [] s K = K s := rfl
theorem eDs_c (o : Dop) (l : List Dop) (K : VSt → Prop) : wDs F (o :: l) s K = wD F o s (kDs F l K) := rfl
theorem ekOs (l : List Op) (K : VSt → Prop) : kOs F l K s = wOs F l s K := rfl
theorem ekDs (l : List Dop) (K : VSt → Prop) : kDs F l K s = wDs F l s K := rfl
theorem ekPut (dst : Option P) (K : VSt → Prop) : kPut dst K s v = K (vput dst v s) := rfl
theorem ekBack (b : List P) (e : VEnv) (w : Nat) (K : VSt → Prop) : kBack b e w K s = K ⟨vback s.e b e, s.nx, w, s.h⟩ := rfl
theorem ekSeq_n (b : C) (K : Out → VSt → Prop) : kSeq F b K .norm s = wC F b s K := rfl
theorem ekSeq_x (b : C) (i : Nat) (K : Out → VSt → Prop) : kSeq F b K (.exit i) s = K (.exit i) s := rfl
theorem ekSeq_r (b : C) (K : Out → VSt → Prop) : kSeq F b K .ret s = K .ret s := rfl
theorem ekBlk_n (id : Nat) (K : Out → VSt → Prop) : kBlk id K .norm s = K .norm s := rfl
theorem ekBlk_x (id i : Nat) (K : Out → VSt → Prop) : kBlk id K (.exit i) s = if i = id then K .norm s else K (.exit i) s := rfl
theorem ekBlk_r (id : Nat) (K : Out → VSt → Prop) : kBlk id K .ret s = K .ret s := rfl
theorem eO_mk (dst : Option P) (i : Ins) (K : VSt → Prop) : wO F (.mk dst none i) s K = wI F i s (kPut dst K) := rfl
theorem eO_gd (dst : Option P) (p : P) (b : Bool) (i : Ins) (K : VSt → Prop) : wO F (.mk dst (some (p, b)) i) s K = match vev (.t p) s.e with
    | some (.bool t) => gSplit t b (wI F i ⟨Tr.set p s.e (some (.bool b)), s.nx, s.w, s.h⟩ (kPut dst K)) (K (vput dst (.tup []) ⟨Tr.set p s.e (some (.bool !b)), s.nx, s.w, s.h⟩))
    | some (.tup []) => K (vput dst (.tup []) s)
    | _ => False := rfl
theorem eO_loc (p : P) (z : List DV) (K : VSt → Prop) : wO F (.loc p z) s K = match ofDVs z with
    | some l => isVarV p s.e = false ∧ K ⟨Tr.set p s.e (some (.var l)), s.nx, s.w, s.h⟩
    | none => False := rfl
theorem eO_locb (p : P) (a : Opd) (K : VSt → Prop) : wO F (.locb p a) s K = match vov a s.e with
    | some v => (match vcells v with | some l => isVarV p s.e = false ∧ K ⟨Tr.set p s.e (some (.var l)), s.nx, s.w, s.h⟩ | none => False)
    | none => False := rfl
theorem eD_mk (c : Bool) (u b : List P) (r : Bool) (dst : Option P) (i : Ins) (K : VSt → Prop) : wD F (.mk c u b r (.mk dst none i)) s K = wO F (.mk dst none i) ⟨vuse c s.e u .nl, s.nx, wOf r s.nx s.w, s.h⟩ (kBack b s.e s.w K) := rfl
theorem eD_loc (c : Bool) (u b : List P) (r : Bool) (p : P) (z : List DV) (K : VSt → Prop) : wD F (.mk c u b r (.loc p z)) s K = wO F (.loc p z) ⟨vuse c s.e u .nl, s.nx, wOf r s.nx s.w, s.h⟩ (kBack b s.e s.w K) := rfl
theorem eD_locb (c : Bool) (u b : List P) (r : Bool) (p : P) (a : Opd) (K : VSt → Prop) : wD F (.mk c u b r (.locb p a)) s K = wO F (.locb p a) ⟨vuse c s.e u .nl, s.nx, wOf r s.nx s.w, s.h⟩ (kBack b s.e s.w K) := rfl
theorem eD_gd (c : Bool) (u b : List P) (r : Bool) (dst : Option P) (p : P) (g : Bool) (i : Ins) (K : VSt → Prop) : wD F (.mk c u b r (.mk dst (some (p, g)) i)) s K = match vev (.t p) s.e with
    | some (.bool t) => gSplit t g (wDr F (.mk c u b r (.mk dst (some (p, g)) i)) ⟨Tr.set p s.e (some (.bool g)), s.nx, s.w, s.h⟩ K) (wDr F (.mk c u b r (.mk dst (some (p, g)) i)) ⟨Tr.set p s.e (some (.bool !g)), s.nx, s.w, s.h⟩ K)
    | _ => wDr F (.mk c u b r (.mk dst (some (p, g)) i)) s K := rfl
theorem eDr (c : Bool) (u b : List P) (r : Bool) (o : Op) (K : VSt → Prop) : wDr F (.mk c u b r o) s K = wO F o ⟨vuse c s.e u .nl, s.nx, wOf r s.nx s.w, s.h⟩ (kBack b s.e s.w K) := rfl
theorem eC_skip (K : Out → VSt → Prop) : wC F .skip s K = K .norm s := rfl
theorem eC_reg (l : List Op) (K : Out → VSt → Prop) : wC F (.reg l) s K = wOs F l s (K .norm) := rfl
theorem eC_drw (l : List Dop) (K : Out → VSt → Prop) : wC F (.drw l) s K = wDs F l s (K .norm) := rfl
theorem eC_seq (a b : C) (K : Out → VSt → Prop) : wC F (.seq a b) s K = wC F a s (kSeq F b K) := rfl
theorem eC_cond (c : Opd) (a b : C) (K : Out → VSt → Prop) : wC F (.cond c a b) s K = match vev c s.e with | some (.bool t) => gSplit t true (wC F a s K) (wC F b s K) | _ => False := rfl
theorem eC_block (id : Nat) (a : C) (K : Out → VSt → Prop) : wC F (.block id a) s K = wC F a s (kBlk id K) := rfl
theorem eC_loop (lv : List P) (a : C) (K : Out → VSt → Prop) : wC F (.loop lv a) s K = wLoop F lv a s K := rfl
theorem eC_exit (id : Nat) (K : Out → VSt → Prop) : wC F (.exit id) s K = K (.exit id) s := rfl
theorem eC_ret (K : Out → VSt → Prop) : wC F .ret s K = K .ret s := rfl
theorem eRet_n (rs : List Rs) (r : VV) : retV rs r .norm s = match vres rs s with | some r' => vw s.h r' = some r | none => False := rfl
theorem eRet_r (rs : List Rs) (r : VV) : retV rs r .ret s = match vres rs s with | some r' => vw s.h r' = some r | none => False := rfl
end
theorem gTT (A B : Prop) : gSplit true true A B = A := propext ⟨fun h => h.1 rfl, fun h => ⟨fun _ => h, fun h' => by cases h'⟩⟩
theorem gFF (A B : Prop) : gSplit false false A B = A := propext ⟨fun h => h.1 rfl, fun h => ⟨fun _ => h, fun h' => by cases h'⟩⟩
theorem gTF (A B : Prop) : gSplit true false A B = B := propext ⟨fun h => h.2 rfl, fun h => ⟨fun h' => (by cases h'), fun _ => h⟩⟩
theorem gFT (A B : Prop) : gSplit false true A B = B := propext ⟨fun h => h.2 rfl, fun h => ⟨fun h' => (by cases h'), fun _ => h⟩⟩
theorem gs_t {t : Bool} {A B : Prop} (h1 : t = true → A) (h2 : t = false → B) : gSplit t true A B := ⟨h1, h2⟩
theorem gs_f {t : Bool} {A B : Prop} (h1 : t = false → A) (h2 : t = true → B) : gSplit t false A B := ⟨h1, h2⟩
def kLp (J : Nat → VSt → Prop) (n : Nat) (K : Out → VSt → Prop) : Out → VSt → Prop := fun o s' => match o with | .norm => ∃ m, m < n ∧ J m s' | .exit i => K (.exit i) s' | .ret => K .ret s'
section
variable (J : Nat → VSt → Prop) (n : Nat) (K : Out → VSt → Prop) (s : VSt)
theorem ekLp_n : kLp J n K .norm s = ∃ m, m < n ∧ J m s := rfl
theorem ekLp_x (i : Nat) : kLp J n K (.exit i) s = K (.exit i) s := rfl
theorem ekLp_r : kLp J n K .ret s = K .ret s := rfl
end
theorem wLoop_by {F : Tr Fd} {lv : List P} {a : C} {s : VSt} {K : Out → VSt → Prop} (J : Nat → VSt → Prop) (n : Nat) (h0 : J n s)
    (hstep : ∀ n s, J n s → wC F a ⟨vkeep s.e lv .nl, s.nx, s.w, s.h⟩ (kLp J n K)) : wLoop F lv a s K := wLoop_of J n h0 hstep
theorem drop_cons' {α : Type} {l : List α} {i : Nat} {x : α} (h : l[i]? = some x) : l.drop i = x :: l.drop (i + 1) := by
  obtain ⟨hi, rfl⟩ := List.getElem?_eq_some_iff.1 h
  rw [List.drop_eq_getElem_cons hi]
mutual
def wk : VV → VV → Prop
  | .nils, .fz n c _ l => n = 0 ∧ c = none ∧ l = []
  | .agg l, .agg l' => wkL l l'
  | .tup l, .tup l' => wkL l l'
  | v, v' => v = v'
def wkL : List VV → List VV → Prop
  | [], [] => True
  | v :: l, v' :: l' => wk v v' ∧ wkL l l'
  | _, _ => False
end
mutual
theorem wk_sound {Z : P → Prop} {h : Hp} {M : Option MM} : ∀ {v v' : VV} {d : DV}, wk v v' → XR Z h M v d → XR Z h M v' d
  | .nils, v', d, e, x => by
    cases v' <;> simp only [wk, reduceCtorEq] at e
    case fz n c sz l => obtain ⟨rfl, rfl, rfl⟩ := e; cases x; exact .fz0 (.inl rfl)
    case nils => exact x
  | .agg l, v', d, e, x => by
    cases v' <;> simp only [wk, reduceCtorEq] at e
    cases x with | agg hl => exact .agg (wkL_sound e hl)
  | .tup l, v', d, e, x => by
    cases v' <;> simp only [wk, reduceCtorEq] at e
    cases x with | tup hl => exact .tup (wkL_sound e hl)
  | .unk, v', d, e, x => by simp only [wk] at e; exact e ▸ x
  | .bool _, v', d, e, x => by simp only [wk] at e; exact e ▸ x
  | .int _ _, v', d, e, x => by simp only [wk] at e; exact e ▸ x
  | .nilp, v', d, e, x => by simp only [wk] at e; exact e ▸ x
  | .nilf, v', d, e, x => by simp only [wk] at e; exact e ▸ x
  | .nili, v', d, e, x => by simp only [wk] at e; exact e ▸ x
  | .nilm, v', d, e, x => by simp only [wk] at e; exact e ▸ x
  | .fz _ _ _ _, v', d, e, x => by simp only [wk] at e; exact e ▸ x
  | .fp _ _, v', d, e, x => by simp only [wk] at e; exact e ▸ x
  | .ow _ _ _, v', d, e, x => by simp only [wk] at e; exact e ▸ x
  | .pt _ _ _, v', d, e, x => by simp only [wk] at e; exact e ▸ x
  | .os _ _ _ _ _, v', d, e, x => by simp only [wk] at e; exact e ▸ x
  | .fn _ _, v', d, e, x => by simp only [wk] at e; exact e ▸ x
  | .ifc _ _, v', d, e, x => by simp only [wk] at e; exact e ▸ x
  | .var _, v', d, e, x => by simp only [wk] at e; exact e ▸ x
  | .fld _ _, v', d, e, x => by simp only [wk] at e; exact e ▸ x
theorem wkL_sound {Z : P → Prop} {h : Hp} {M : Option MM} : ∀ {l l' : List VV} {d : List DV}, wkL l l' → XRs Z h M l d → XRs Z h M l' d
  | [], l', d, e, x => by
    cases l' <;> simp only [wkL] at e
    exact x
  | v :: l, l', d, e, x => by
    cases l' <;> simp only [wkL] at e
    cases x with | cons hv hl => exact .cons (wk_sound e.1 hv) (wkL_sound e.2 hl)
end
def retW (rs : List Rs) (r : VV) (o : Out) (s : VSt) : Prop :=
  match o with
  | .exit _ => False
  | _ => match vres rs s with | some r' => (match vw s.h r' with | some r0 => wk r0 r | none => False) | none => False
theorem eRetW_n (rs : List Rs) (r : VV) (s : VSt) : retW rs r .norm s = match vres rs s with | some r' => (match vw s.h r' with | some r0 => wk r0 r | none => False) | none => False := rfl
theorem eRetW_r (rs : List Rs) (r : VV) (s : VSt) : retW rs r .ret s = match vres rs s with | some r' => (match vw s.h r' with | some r0 => wk r0 r | none => False) | none => False := rfl
theorem FSem.weak {F : Tr Fd} {f : P} {args : List VV} {nx : Nat} {h : VHp} {R : VV → Nat → VHp → Prop} {r : VV} (H : FSem F f args nx h R) (hR : ∀ r' n h', R r' n h' → ∃ r0, vw h' r' = some r0 ∧ wk r0 r) : FSem F f args nx h fun r' _ _ => r' = r := by
  intro c dnx dh g ds hc hH hx
  obtain ⟨r', nx', h', x, dnx', dh', g', a, b, cc, d, e⟩ := H c dnx dh g ds hc hH hx
  obtain ⟨r0, e1, e2⟩ := hR _ _ _ e
  obtain ⟨R1, E1⟩ := b.freeze (keysV r') (zOf h' g' (keysV r')) fun b => Iff.rfl
  exact ⟨r, nx', _, x, dnx', dh', ⟨zOf h' g' (keysV r'), g'.μ⟩, a, R1, (wk_sound e2 (vw_sound b cc e1 fun k h => h)).none_any, d.trans E1, rfl⟩
theorem vpure_of_body' {F : Tr Fd} {f : P} {ps : List P} {body : C} {rs : List Rs} {args : List VV} {r : VV} {e : VEnv}
    (hf : Tr.get? f F = some (.mk ps body rs)) (he : vbinds ps args .nl = some e) (H : wC F body ⟨e, 0, 0, []⟩ (retW rs r)) : VPure F f args r := by
  refine FSem.weak (fsem_of_body hf he (R := fun r' _ h' => ∃ r0, vw h' r' = some r0 ∧ wk r0 r) ?_) (fun _ _ _ h => h)
  have : retK rs (fun r' _ h' => ∃ r0, vw h' r' = some r0 ∧ wk r0 r) = retW rs r := by
    funext o s
    have key : ∀ x : Option VV, (match x with | some r' => (∃ r0, vw s.h r' = some r0 ∧ wk r0 r) | none => False) = (match x with | some r' => (match vw s.h r' with | some r0 => wk r0 r | none => False) | none => False) := by
      intro x
      cases x with
      | none => rfl
      | some r' =>
        have k2 : ∀ y : Option VV, (∃ r0, y = some r0 ∧ wk r0 r) = (match y with | some r0 => wk r0 r | none => False) := by
          intro y
          cases y with
          | none => exact propext ⟨fun ⟨r0, h1, _⟩ => (by cases h1), fun h => h.elim⟩
          | some r0 => exact propext ⟨fun ⟨r1, h1, h2⟩ => by cases h1; exact h2, fun h2 => ⟨r0, rfl, h2⟩⟩
        exact k2 (vw s.h r')
    cases o with
    | norm => exact key _
    | exit i => rfl
    | ret => exact key _
  rw [this]; exact H
def subH (h' h : VHp) : Prop := ∀ k o, hget h' k = some o → hget h k = some o
theorem subH_refl (h : VHp) : subH h h := fun _ _ e => e
theorem subH_tail {h : VHp} {k : Nat} {o : VOb} (hk : hget h k = none) : subH h ((k, o) :: h) := by
  intro i x e
  simp only [hget]
  by_cases hi : i = k
  · subst hi; rw [hk] at e; cases e
  · rw [if_neg hi]; exact e
theorem subH_trans {a b c : VHp} (h1 : subH a b) (h2 : subH b c) : subH a c := fun k o e => h2 k o (h1 k o e)
theorem RS.sub {c : Ctx} {s : VSt} {d : DS} {g : Gh} (R : RS c s d g) {h' : VHp} (hs : subH h' s.h) : RS c ⟨s.e, s.nx, s.w, h'⟩ d g ∧ EvoS s d g ⟨s.e, s.nx, s.w, h'⟩ d g := by
  obtain ⟨R1, E1⟩ := R.hp.sub hs
  exact ⟨⟨E1.env R.env, R1⟩, E1⟩
theorem CSem.drop {F : Tr Fd} {cd : C} {s : VSt} {K : Out → VSt → Prop} {h' : VHp} (hs : subH h' s.h) (H : CSem F cd ⟨s.e, s.nx, s.w, h'⟩ K) : CSem F cd s K := by
  intro c d g hc R
  obtain ⟨R1, E1⟩ := R.sub hs
  obtain ⟨o, s', d', g', hr, R', hw, E, hK⟩ := H c d g hc R1
  exact ⟨o, s', d', g', hr, R', hw, E1.trans E, hK⟩
theorem CSem.own {F : Tr Fd} {cd : C} {s : VSt} {K : Out → VSt → Prop} (p : P) (sz : Nat) (hp : Tr.get? p s.e = some .nils) (H : CSem F cd ⟨Tr.set p s.e (some (.ow s.nx 0 sz)), s.nx + 1, s.w, (s.nx, .row []) :: s.h⟩ K) : CSem F cd s K := by
  intro c d g hc R
  obtain ⟨R1, E1⟩ := R.hp.addNil
  have hE := E1.env R.env
  obtain ⟨y, hy, hx⟩ := R.env.get hp
  have hy' := hx.nils_inv
  subst hy'
  have R2 : RS c ⟨Tr.set p s.e (some (.ow s.nx 0 sz)), s.nx + 1, s.w, (s.nx, .row []) :: s.h⟩ d ⟨g.Z, upd g.μ s.nx .nils⟩ := by
    refine ⟨fun q => ?_, R1⟩
    show match Tr.get? q (Tr.set p s.e (some (.ow s.nx 0 sz))), Tr.get? q d.e with | none, none => True | some v, some x => XR g.Z d.h (mm (s.nx + 1) ((s.nx, .row []) :: s.h) ⟨g.Z, upd g.μ s.nx .nils⟩) v x | _, _ => False
    rw [Tr.get_set]
    by_cases hq : q = p
    · subst hq; rw [if_pos rfl, hy]; exact xr_ow_new (by simp) (.inl ⟨rfl, rfl⟩)
    · rw [if_neg hq]; exact hE q
  obtain ⟨o, s', d', g', hr, R', hw, E, hK⟩ := H c d _ hc R2
  exact ⟨o, s', d', g', hr, R', hw, E1.trans E, hK⟩
theorem wLoop_own {F : Tr Fd} {lv : List P} {a : C} {s : VSt} {K : Out → VSt → Prop} (p : P) (sz : Nat) (hp : Tr.get? p s.e = some .nils) (H : wLoop F lv a ⟨Tr.set p s.e (some (.ow s.nx 0 sz)), s.nx + 1, s.w, (s.nx, .row []) :: s.h⟩ K) : wLoop F lv a s K := CSem.own p sz hp H
theorem CSem.ownV {F : Tr Fd} {cd : C} {s : VSt} {K : Out → VSt → Prop} (p : P) (i sz : Nat) {l : List VV} (hp : Tr.get? p s.e = some (.var l)) (hi : l[i]? = some .nils)
    (H : CSem F cd ⟨Tr.set p s.e (some (.var (l.take i ++ .ow s.nx 0 sz :: l.drop (i + 1)))), s.nx + 1, s.w, (s.nx, .row []) :: s.h⟩ K) : CSem F cd s K := by
  intro c d g hc R
  obtain ⟨R1, E1⟩ := R.hp.addNil
  have hE := E1.env R.env
  obtain ⟨y, hy, hx⟩ := R.env.get hp
  obtain ⟨l', rfl, hl⟩ := hx.var_inv
  obtain ⟨d0, hd0, hd1⟩ := hl.get i _ hi
  have hd2 := hd1.nils_inv
  subst hd2
  have R2 : RS c ⟨Tr.set p s.e (some (.var (l.take i ++ .ow s.nx 0 sz :: l.drop (i + 1)))), s.nx + 1, s.w, (s.nx, .row []) :: s.h⟩ d ⟨g.Z, upd g.μ s.nx .nils⟩ := by
    refine ⟨fun q => ?_, R1⟩
    show match Tr.get? q (Tr.set p s.e (some (.var (l.take i ++ .ow s.nx 0 sz :: l.drop (i + 1))))), Tr.get? q d.e with | none, none => True | some v, some x => XR g.Z d.h (mm (s.nx + 1) ((s.nx, .row []) :: s.h) ⟨g.Z, upd g.μ s.nx .nils⟩) v x | _, _ => False
    rw [Tr.get_set]
    by_cases hq : q = p
    · subst hq; rw [if_pos rfl, hy]
      have hl2 : XRs g.Z d.h (mm (s.nx + 1) ((s.nx, .row []) :: s.h) ⟨g.Z, upd g.μ s.nx .nils⟩) l l' := E1.xrs hl
      have e : l' = l'.take i ++ .nils :: l'.drop (i + 1) := by
        rw [← drop_cons' hd0, List.take_append_drop]
      show XR _ _ _ (.var _) (.var l')
      rw [e]
      exact .var ((hl2.take i).append (.cons (xr_ow_new (by simp) (.inl ⟨rfl, rfl⟩)) (hl2.drop _)))
    · rw [if_neg hq]; exact hE q
  obtain ⟨o, s', d', g', hr, R', hw, E, hK⟩ := H c d _ hc R2
  exact ⟨o, s', d', g', hr, R', hw, E1.trans E, hK⟩
theorem wLoop_ownV {F : Tr Fd} {lv : List P} {a : C} {s : VSt} {K : Out → VSt → Prop} (p : P) (i sz : Nat) {l : List VV} (hp : Tr.get? p s.e = some (.var l)) (hi : l[i]? = some .nils)
    (H : wLoop F lv a ⟨Tr.set p s.e (some (.var (l.take i ++ .ow s.nx 0 sz :: l.drop (i + 1)))), s.nx + 1, s.w, (s.nx, .row []) :: s.h⟩ K) : wLoop F lv a s K := CSem.ownV p i sz hp hi H
def kLd (J : Nat → VSt → Prop) (n : Nat) (K : Out → VSt → Prop) : Out → VSt → Prop := fun o s' => match o with | .norm => ∃ m, m < n ∧ ∃ h', subH h' s'.h ∧ J m ⟨s'.e, s'.nx, s'.w, h'⟩ | .exit i => K (.exit i) s' | .ret => K .ret s'
section
variable (J : Nat → VSt → Prop) (n : Nat) (K : Out → VSt → Prop) (s : VSt)
theorem ekLd_n : kLd J n K .norm s = ∃ m, m < n ∧ ∃ h', subH h' s.h ∧ J m ⟨s.e, s.nx, s.w, h'⟩ := rfl
theorem ekLd_x (i : Nat) : kLd J n K (.exit i) s = K (.exit i) s := rfl
theorem ekLd_r : kLd J n K .ret s = K .ret s := rfl
end
theorem wLoop_dr {F : Tr Fd} {lv : List P} {a : C} {s : VSt} {K : Out → VSt → Prop} (J : Nat → VSt → Prop) (n : Nat) (h0 : J n s)
    (hstep : ∀ n s, J n s → wC F a ⟨vkeep s.e lv .nl, s.nx, s.w, s.h⟩ (kLd J n K)) : wLoop F lv a s K := by
  induction n using Nat.strongRecOn generalizing s with
  | _ n ih =>
    intro c d g hc R
    have R0 : RS c ⟨vkeep s.e lv .nl, s.nx, s.w, s.h⟩ ⟨keep d.e lv .nl, d.nx, d.h⟩ g := ⟨vkeep_sound R.env lv EnvR.nl, R.hp⟩
    obtain ⟨o1, s1, d1, g1, ⟨f1, r1⟩, R1, hw1, E1, H1⟩ := wC_sound (hstep n s h0) c _ g hc R0
    have run : ∀ m, f1 ≤ m → step (.loop lv a) F (exec F m) c.wm d.e d.nx d.h = lpO (.loop lv a) F (exec F m) c.wm o1 d1.e d1.nx d1.h := by
      intro m hm
      show keepK lv d.e .nl (fun e => Res.rec (motive := fun _ => Res) .fail (lpO (.loop lv a) F (exec F m) c.wm) (step a F (exec F m) c.wm e d.nx d.h)) = _
      rw [keepK_eq, r1 m hm]
    cases o1 with
    | norm =>
      obtain ⟨m, hm, h', hs, hJ⟩ := H1
      obtain ⟨R1', E1'⟩ := R1.sub hs
      obtain ⟨o2, s2, d2, g2, ⟨f2, r2⟩, R2, hw2, E2, H2⟩ := ih m hm hJ c d1 g1 hc R1'
      refine ⟨o2, s2, d2, g2, ⟨max f1 (f2 + 1), fun n hn => ?_⟩, R2, hw2.trans hw1, (E1.trans E1').trans E2, H2⟩
      rw [run n (by omega)]
      obtain ⟨n', rfl⟩ : ∃ n', n = n' + 1 := ⟨n - 1, by omega⟩
      exact r2 n' (by omega)
    | exit i => exact ⟨.exit i, s1, d1, g1, ⟨f1, fun n hn => by rw [run n hn]; rfl⟩, R1, hw1, E1, H1⟩
    | ret => exact ⟨.ret, s1, d1, g1, ⟨f1, fun n hn => by rw [run n hn]; rfl⟩, R1, hw1, E1, H1⟩
theorem Tr.set_z_e {α : Type} (x : Option α) : Tr.set .z .nl x = .nd x .nl .nl := rfl
theorem Tr.set_z_n {α : Type} (v : Option α) (l r : Tr α) (x : Option α) : Tr.set .z (.nd v l r) x = .nd x l r := rfl
structure Mono where
  v : Int
  k : Int
structure Term where
  c : Int
  l : List Mono
structure Cons where
  t : Term
  eq : Bool
def encM : List Mono → List VV
  | [] => []
  | m :: l => .int .i64 m.v :: .int .i64 m.k :: encM l
def vMs (l : List Mono) : VV := .fz l.length none 2 (encM l)
def cT (t : Term) : List VV := [.int .i64 t.c, vMs t.l]
def vT (t : Term) : VV := .agg (cT t)
def cC (x : Cons) : List VV := [.int .i64 x.t.c, vMs x.t.l, .bool x.eq]
def vC (x : Cons) : VV := .agg (cC x)
def encC : List Cons → List VV
  | [] => []
  | x :: l => .int .i64 x.t.c :: vMs x.t.l :: .bool x.eq :: encC l
def vCs (l : List Cons) : VV := .fz l.length none 3 (encC l)
def encI : List Int → List VV
  | [] => []
  | x :: l => .int .i64 x :: encI l
def vIs (l : List Int) : VV := .fz l.length none 1 (encI l)
theorem encM_len (l : List Mono) : (encM l).length = l.length * 2 := by
  induction l with
  | nil => rfl
  | cons m l ih => simp only [encM, List.length_cons, ih]; omega
theorem encC_len (l : List Cons) : (encC l).length = l.length * 3 := by
  induction l with
  | nil => rfl
  | cons m l ih => simp only [encC, List.length_cons, ih]; omega
theorem encI_len (l : List Int) : (encI l).length = l.length := by
  induction l with
  | nil => rfl
  | cons m l ih => simp only [encI, List.length_cons, ih]
theorem encM_app (l m : List Mono) : encM (l ++ m) = encM l ++ encM m := by
  induction l with
  | nil => rfl
  | cons x l ih => simp only [encM, List.cons_append, ih]
theorem encC_app (l m : List Cons) : encC (l ++ m) = encC l ++ encC m := by
  induction l with
  | nil => rfl
  | cons x l ih => simp only [encC, List.cons_append, ih]
theorem encI_app (l m : List Int) : encI (l ++ m) = encI l ++ encI m := by
  induction l with
  | nil => rfl
  | cons x l ih => simp only [encI, List.cons_append, ih]
theorem encM_drop (l : List Mono) : ∀ i : Nat, (encM l).drop (i * 2) = encM (l.drop i) := by
  induction l with
  | nil => intro i; simp [encM]
  | cons x l ih => intro i; cases i with
    | zero => simp
    | succ i => rw [show (i + 1) * 2 = i * 2 + 1 + 1 by omega]; simp only [encM, List.drop_succ_cons, ih]
theorem encC_drop (l : List Cons) : ∀ i : Nat, (encC l).drop (i * 3) = encC (l.drop i) := by
  induction l with
  | nil => intro i; simp [encC]
  | cons x l ih => intro i; cases i with
    | zero => simp
    | succ i => rw [show (i + 1) * 3 = i * 3 + 1 + 1 + 1 by omega]; simp only [encC, List.drop_succ_cons, ih]
theorem encI_drop (l : List Int) : ∀ i : Nat, (encI l).drop i = encI (l.drop i) := by
  induction l with
  | nil => intro i; simp [encI]
  | cons x l ih => intro i; cases i with
    | zero => simp
    | succ i => simp only [encI, List.drop_succ_cons, ih]
theorem encM_take (l : List Mono) : ∀ i : Nat, (encM l).take (i * 2) = encM (l.take i) := by
  induction l with
  | nil => intro i; simp [encM]
  | cons x l ih => intro i; cases i with
    | zero => simp [encM]
    | succ i => rw [show (i + 1) * 2 = i * 2 + 1 + 1 by omega]; simp only [encM, List.take_succ_cons, ih]
theorem encC_take (l : List Cons) : ∀ i : Nat, (encC l).take (i * 3) = encC (l.take i) := by
  induction l with
  | nil => intro i; simp [encC]
  | cons x l ih => intro i; cases i with
    | zero => simp [encC]
    | succ i => rw [show (i + 1) * 3 = i * 3 + 1 + 1 + 1 by omega]; simp only [encC, List.take_succ_cons, ih]
theorem encI_take (l : List Int) : ∀ i : Nat, (encI l).take i = encI (l.take i) := by
  induction l with
  | nil => intro i; simp [encI]
  | cons x l ih => intro i; cases i with
    | zero => simp [encI]
    | succ i => simp only [encI, List.take_succ_cons, ih]
theorem drop_cons {α : Type} {l : List α} {i : Nat} {x : α} (h : l[i]? = some x) : l.drop i = x :: l.drop (i + 1) := by
  obtain ⟨hi, rfl⟩ := List.getElem?_eq_some_iff.1 h
  rw [List.drop_eq_getElem_cons hi]
theorem encM_cut {l : List Mono} {i : Nat} {m : Mono} (h : l[i]? = some m) : ((encM l).drop (i * 2)).take 2 = [.int .i64 m.v, .int .i64 m.k] := by
  rw [encM_drop, drop_cons h]; rfl
theorem encC_cut {l : List Cons} {i : Nat} {x : Cons} (h : l[i]? = some x) : ((encC l).drop (i * 3)).take 3 = cC x := by
  rw [encC_drop, drop_cons h]; rfl
theorem get_of_drop {α : Type} {l m : List α} {i j : Nat} (h : l.drop i = m) : l[i + j]? = m[j]? := by rw [← h, List.getElem?_drop]
theorem encM_g0 {l : List Mono} {i : Nat} {m : Mono} (h : l[i]? = some m) : (encM l)[i * 2]? = some (.int .i64 m.v) := by
  have := get_of_drop (j := 0) (encM_drop l i); rw [drop_cons h] at this; exact this
theorem encM_g1 {l : List Mono} {i : Nat} {m : Mono} (h : l[i]? = some m) : (encM l)[i * 2 + 1]? = some (.int .i64 m.k) := by
  have := get_of_drop (j := 1) (encM_drop l i); rw [drop_cons h] at this; exact this
theorem encI_g {l : List Int} {i : Nat} {m : Int} (h : l[i]? = some m) : (encI l)[i]? = some (.int .i64 m) := by
  have := get_of_drop (j := 0) (encI_drop l i); rw [drop_cons h] at this; exact this
theorem i64 {z : Int} (h : -9223372036854775808 ≤ z ∧ z < 9223372036854775808) : IntKind.i64.wrap z = z := wrap_of_fits (by
  cases z with
  | ofNat a => show Nat.ble a 9223372036854775807 = true; rw [Nat.ble_eq]; simp only [Int.ofNat_eq_natCast] at h; omega
  | negSucc a => show Nat.ble a 9223372036854775807 = true; rw [Nat.ble_eq]; simp only [Int.negSucc_eq] at h; omega)
theorem inc64 {i n : Nat} (h : i < n) (hn : n ≤ 4611686018427387904) : IntKind.i64.wrap ((i : Int) + 1) = ((i + 1 : Nat) : Int) := by rw [i64 (by omega)]; omega
theorem sub64 {i n : Nat} (h : i + 1 < n) (hn : n ≤ 4611686018427387904) : IntKind.i64.wrap (((i + 1 : Nat) : Int) - 1) = (i : Int) := by rw [i64 (by omega)]; omega
theorem ltT {i n : Nat} (h : i < n) : decide ((i : Int) < (n : Int)) = true := by simpa using h
theorem ltF {i n : Nat} (h : n ≤ i) : decide ((i : Int) < (n : Int)) = false := by simpa using h
theorem has {α : Type} {l : List α} {i : Nat} (h : i < l.length) : ∃ m, l[i]? = some m := ⟨_, List.getElem?_eq_getElem h⟩
theorem take_snoc {α : Type} {l : List α} {i : Nat} {x : α} (h : l[i]? = some x) : l.take (i + 1) = l.take i ++ [x] := by
  rw [List.take_add_one, h]; rfl
theorem wCall_frz {F : Tr Fd} {f : P} {args args' : List VV} {s : VSt} {K : VSt → VV → Prop} (p : P) {v v' : VV} (hp : Tr.get? p s.e = some v) (hv : vw s.h v = some v') (ha : vwL s.h args = some args')
    (H : wCall F f args' ⟨Tr.set p s.e (some v'), s.nx, s.w, hdels s.h (keysV v ++ keysL args)⟩ K) : wCall F f args s K := by
  intro c d g ds R hx
  obtain ⟨R1, E1⟩ := R.hp.freeze (keysV v ++ keysL args) (zOf s.h g (keysV v ++ keysL args)) fun b => Iff.rfl
  have hx1 := vwL_sound R.hp hx ha (ks := keysV v ++ keysL args) fun k h => List.mem_append_right _ h
  obtain ⟨y, hy, hxy⟩ := R.env.get hp
  have hy1 := vw_sound R.hp hxy hv (ks := keysV v ++ keysL args) fun k h => List.mem_append_left _ h
  have hE := E1.env R.env
  have R2 : RS c ⟨Tr.set p s.e (some v'), s.nx, s.w, hdels s.h (keysV v ++ keysL args)⟩ d ⟨zOf s.h g (keysV v ++ keysL args), g.μ⟩ := by
    refine ⟨fun q => ?_, R1⟩
    show match Tr.get? q (Tr.set p s.e (some v')), Tr.get? q d.e with | none, none => True | some u, some x => XR (zOf s.h g (keysV v ++ keysL args)) d.h (mm s.nx (hdels s.h (keysV v ++ keysL args)) ⟨zOf s.h g (keysV v ++ keysL args), g.μ⟩) u x | _, _ => False
    rw [Tr.get_set]
    by_cases hq : q = p
    · subst hq; rw [if_pos rfl, hy]; exact hy1.none_any
    · rw [if_neg hq]; exact hE q
  obtain ⟨s', v0, d', x, g', hrun, R', hw, hxr, E, hK⟩ := H c d _ ds R2 hx1.none_any
  exact ⟨s', v0, d', x, g', hrun, R', hw, hxr, E1.trans E, hK⟩
theorem wCall_wk {F : Tr Fd} {f : P} {args args' : List VV} {s : VSt} {K : VSt → VV → Prop} (hw : wkL args args') (H : wCall F f args' s K) : wCall F f args s K := by
  intro c d g ds R hx
  exact H c d g ds R (wkL_sound hw hx)
def Slots (e : VEnv) : List (P × VV) → Prop
  | [] => True
  | (p, v) :: t => Tr.get? p e = some v ∧ Slots e t
def At (s : VSt) (l : List (P × VV)) (nx w : Nat) (h : VHp) : Prop := Slots s.e l ∧ s.nx = nx ∧ s.w = w ∧ s.h = h
abbrev mI (d : P) (i : Ins) : Op := .mk (some d) none i
abbrev p0 : P := .z
abbrev t0 : Opd := .t p0
abbrev p1 : P := (.l .z)
abbrev t1 : Opd := .t p1
abbrev p2 : P := (.r .z)
abbrev t2 : Opd := .t p2
abbrev p3 : P := (.l (.l .z))
abbrev t3 : Opd := .t p3
abbrev p4 : P := (.r (.l .z))
abbrev t4 : Opd := .t p4
abbrev p5 : P := (.l (.r .z))
abbrev t5 : Opd := .t p5
abbrev p6 : P := (.r (.r .z))
abbrev t6 : Opd := .t p6
abbrev p7 : P := (.l (.l (.l .z)))
abbrev t7 : Opd := .t p7
abbrev p8 : P := (.r (.l (.l .z)))
abbrev t8 : Opd := .t p8
abbrev p9 : P := (.l (.r (.l .z)))
abbrev t9 : Opd := .t p9
abbrev p10 : P := (.r (.r (.l .z)))
abbrev t10 : Opd := .t p10
abbrev p11 : P := (.l (.l (.r .z)))
abbrev t11 : Opd := .t p11
abbrev p12 : P := (.r (.l (.r .z)))
abbrev t12 : Opd := .t p12
abbrev p13 : P := (.l (.r (.r .z)))
abbrev t13 : Opd := .t p13
abbrev p14 : P := (.r (.r (.r .z)))
abbrev t14 : Opd := .t p14
abbrev p15 : P := (.l (.l (.l (.l .z))))
abbrev t15 : Opd := .t p15
abbrev p16 : P := (.r (.l (.l (.l .z))))
abbrev t16 : Opd := .t p16
abbrev p17 : P := (.l (.r (.l (.l .z))))
abbrev t17 : Opd := .t p17
abbrev p18 : P := (.r (.r (.l (.l .z))))
abbrev t18 : Opd := .t p18
abbrev p19 : P := (.l (.l (.r (.l .z))))
abbrev t19 : Opd := .t p19
abbrev p20 : P := (.r (.l (.r (.l .z))))
abbrev t20 : Opd := .t p20
abbrev p21 : P := (.l (.r (.r (.l .z))))
abbrev t21 : Opd := .t p21
abbrev p22 : P := (.r (.r (.r (.l .z))))
abbrev t22 : Opd := .t p22
abbrev p23 : P := (.l (.l (.l (.r .z))))
abbrev t23 : Opd := .t p23
abbrev p24 : P := (.r (.l (.l (.r .z))))
abbrev t24 : Opd := .t p24
abbrev p25 : P := (.l (.r (.l (.r .z))))
abbrev t25 : Opd := .t p25
abbrev p26 : P := (.r (.r (.l (.r .z))))
abbrev t26 : Opd := .t p26
abbrev p27 : P := (.l (.l (.r (.r .z))))
abbrev t27 : Opd := .t p27
abbrev p28 : P := (.r (.l (.r (.r .z))))
abbrev t28 : Opd := .t p28
abbrev p29 : P := (.l (.r (.r (.r .z))))
abbrev t29 : Opd := .t p29
abbrev p30 : P := (.r (.r (.r (.r .z))))
abbrev t30 : Opd := .t p30
abbrev p31 : P := (.l (.l (.l (.l (.l .z)))))
abbrev t31 : Opd := .t p31
abbrev p32 : P := (.r (.l (.l (.l (.l .z)))))
abbrev t32 : Opd := .t p32
abbrev p33 : P := (.l (.r (.l (.l (.l .z)))))
abbrev t33 : Opd := .t p33
abbrev p34 : P := (.r (.r (.l (.l (.l .z)))))
abbrev t34 : Opd := .t p34
abbrev p35 : P := (.l (.l (.r (.l (.l .z)))))
abbrev t35 : Opd := .t p35
abbrev p36 : P := (.r (.l (.r (.l (.l .z)))))
abbrev t36 : Opd := .t p36
abbrev p37 : P := (.l (.r (.r (.l (.l .z)))))
abbrev t37 : Opd := .t p37
abbrev p38 : P := (.r (.r (.r (.l (.l .z)))))
abbrev t38 : Opd := .t p38
abbrev p39 : P := (.l (.l (.l (.r (.l .z)))))
abbrev t39 : Opd := .t p39
abbrev p40 : P := (.r (.l (.l (.r (.l .z)))))
abbrev t40 : Opd := .t p40
abbrev p41 : P := (.l (.r (.l (.r (.l .z)))))
abbrev t41 : Opd := .t p41
abbrev p42 : P := (.r (.r (.l (.r (.l .z)))))
abbrev t42 : Opd := .t p42
abbrev p43 : P := (.l (.l (.r (.r (.l .z)))))
abbrev t43 : Opd := .t p43
abbrev p44 : P := (.r (.l (.r (.r (.l .z)))))
abbrev t44 : Opd := .t p44
abbrev p45 : P := (.l (.r (.r (.r (.l .z)))))
abbrev t45 : Opd := .t p45
abbrev p46 : P := (.r (.r (.r (.r (.l .z)))))
abbrev t46 : Opd := .t p46
abbrev p47 : P := (.l (.l (.l (.l (.r .z)))))
abbrev t47 : Opd := .t p47
abbrev p48 : P := (.r (.l (.l (.l (.r .z)))))
abbrev t48 : Opd := .t p48
abbrev p49 : P := (.l (.r (.l (.l (.r .z)))))
abbrev t49 : Opd := .t p49
abbrev p50 : P := (.r (.r (.l (.l (.r .z)))))
abbrev t50 : Opd := .t p50
abbrev p51 : P := (.l (.l (.r (.l (.r .z)))))
abbrev t51 : Opd := .t p51
abbrev p52 : P := (.r (.l (.r (.l (.r .z)))))
abbrev t52 : Opd := .t p52
abbrev p53 : P := (.l (.r (.r (.l (.r .z)))))
abbrev t53 : Opd := .t p53
abbrev p54 : P := (.r (.r (.r (.l (.r .z)))))
abbrev t54 : Opd := .t p54
abbrev p55 : P := (.l (.l (.l (.r (.r .z)))))
abbrev t55 : Opd := .t p55
abbrev p56 : P := (.r (.l (.l (.r (.r .z)))))
abbrev t56 : Opd := .t p56
abbrev p57 : P := (.l (.r (.l (.r (.r .z)))))
abbrev t57 : Opd := .t p57
abbrev p58 : P := (.r (.r (.l (.r (.r .z)))))
abbrev t58 : Opd := .t p58
abbrev p59 : P := (.l (.l (.r (.r (.r .z)))))
abbrev t59 : Opd := .t p59
abbrev p60 : P := (.r (.l (.r (.r (.r .z)))))
abbrev t60 : Opd := .t p60
abbrev p61 : P := (.l (.r (.r (.r (.r .z)))))
abbrev t61 : Opd := .t p61
abbrev p62 : P := (.r (.r (.r (.r (.r .z)))))
abbrev t62 : Opd := .t p62
abbrev p63 : P := (.l (.l (.l (.l (.l (.l .z))))))
abbrev t63 : Opd := .t p63
abbrev p64 : P := (.r (.l (.l (.l (.l (.l .z))))))
abbrev t64 : Opd := .t p64
abbrev p65 : P := (.l (.r (.l (.l (.l (.l .z))))))
abbrev t65 : Opd := .t p65
abbrev p66 : P := (.r (.r (.l (.l (.l (.l .z))))))
abbrev t66 : Opd := .t p66
abbrev p67 : P := (.l (.l (.r (.l (.l (.l .z))))))
abbrev t67 : Opd := .t p67
abbrev p68 : P := (.r (.l (.r (.l (.l (.l .z))))))
abbrev t68 : Opd := .t p68
abbrev p69 : P := (.l (.r (.r (.l (.l (.l .z))))))
abbrev t69 : Opd := .t p69
abbrev p70 : P := (.r (.r (.r (.l (.l (.l .z))))))
abbrev t70 : Opd := .t p70
abbrev p71 : P := (.l (.l (.l (.r (.l (.l .z))))))
abbrev t71 : Opd := .t p71
abbrev p72 : P := (.r (.l (.l (.r (.l (.l .z))))))
abbrev t72 : Opd := .t p72
abbrev p73 : P := (.l (.r (.l (.r (.l (.l .z))))))
abbrev t73 : Opd := .t p73
abbrev p74 : P := (.r (.r (.l (.r (.l (.l .z))))))
abbrev t74 : Opd := .t p74
abbrev p75 : P := (.l (.l (.r (.r (.l (.l .z))))))
abbrev t75 : Opd := .t p75
abbrev p76 : P := (.r (.l (.r (.r (.l (.l .z))))))
abbrev t76 : Opd := .t p76
abbrev p77 : P := (.l (.r (.r (.r (.l (.l .z))))))
abbrev t77 : Opd := .t p77
abbrev p78 : P := (.r (.r (.r (.r (.l (.l .z))))))
abbrev t78 : Opd := .t p78
abbrev p79 : P := (.l (.l (.l (.l (.r (.l .z))))))
abbrev t79 : Opd := .t p79
abbrev p80 : P := (.r (.l (.l (.l (.r (.l .z))))))
abbrev t80 : Opd := .t p80
abbrev p81 : P := (.l (.r (.l (.l (.r (.l .z))))))
abbrev t81 : Opd := .t p81
abbrev p82 : P := (.r (.r (.l (.l (.r (.l .z))))))
abbrev t82 : Opd := .t p82
abbrev p83 : P := (.l (.l (.r (.l (.r (.l .z))))))
abbrev t83 : Opd := .t p83
abbrev p84 : P := (.r (.l (.r (.l (.r (.l .z))))))
abbrev t84 : Opd := .t p84
abbrev p85 : P := (.l (.r (.r (.l (.r (.l .z))))))
abbrev t85 : Opd := .t p85
abbrev p86 : P := (.r (.r (.r (.l (.r (.l .z))))))
abbrev t86 : Opd := .t p86
abbrev p87 : P := (.l (.l (.l (.r (.r (.l .z))))))
abbrev t87 : Opd := .t p87
abbrev p88 : P := (.r (.l (.l (.r (.r (.l .z))))))
abbrev t88 : Opd := .t p88
abbrev p89 : P := (.l (.r (.l (.r (.r (.l .z))))))
abbrev t89 : Opd := .t p89
abbrev p90 : P := (.r (.r (.l (.r (.r (.l .z))))))
abbrev t90 : Opd := .t p90
abbrev p91 : P := (.l (.l (.r (.r (.r (.l .z))))))
abbrev t91 : Opd := .t p91
abbrev p92 : P := (.r (.l (.r (.r (.r (.l .z))))))
abbrev t92 : Opd := .t p92
abbrev p93 : P := (.l (.r (.r (.r (.r (.l .z))))))
abbrev t93 : Opd := .t p93
abbrev p94 : P := (.r (.r (.r (.r (.r (.l .z))))))
abbrev t94 : Opd := .t p94
abbrev p95 : P := (.l (.l (.l (.l (.l (.r .z))))))
abbrev t95 : Opd := .t p95
abbrev p96 : P := (.r (.l (.l (.l (.l (.r .z))))))
abbrev t96 : Opd := .t p96
abbrev p97 : P := (.l (.r (.l (.l (.l (.r .z))))))
abbrev t97 : Opd := .t p97
abbrev p98 : P := (.r (.r (.l (.l (.l (.r .z))))))
abbrev t98 : Opd := .t p98
abbrev p99 : P := (.l (.l (.r (.l (.l (.r .z))))))
abbrev t99 : Opd := .t p99
abbrev p100 : P := (.r (.l (.r (.l (.l (.r .z))))))
abbrev t100 : Opd := .t p100
abbrev p101 : P := (.l (.r (.r (.l (.l (.r .z))))))
abbrev t101 : Opd := .t p101
abbrev p102 : P := (.r (.r (.r (.l (.l (.r .z))))))
abbrev t102 : Opd := .t p102
abbrev p103 : P := (.l (.l (.l (.r (.l (.r .z))))))
abbrev t103 : Opd := .t p103
abbrev p104 : P := (.r (.l (.l (.r (.l (.r .z))))))
abbrev t104 : Opd := .t p104
abbrev p105 : P := (.l (.r (.l (.r (.l (.r .z))))))
abbrev t105 : Opd := .t p105
abbrev p106 : P := (.r (.r (.l (.r (.l (.r .z))))))
abbrev t106 : Opd := .t p106
abbrev p107 : P := (.l (.l (.r (.r (.l (.r .z))))))
abbrev t107 : Opd := .t p107
abbrev p108 : P := (.r (.l (.r (.r (.l (.r .z))))))
abbrev t108 : Opd := .t p108
abbrev p109 : P := (.l (.r (.r (.r (.l (.r .z))))))
abbrev t109 : Opd := .t p109
abbrev p110 : P := (.r (.r (.r (.r (.l (.r .z))))))
abbrev t110 : Opd := .t p110
abbrev p111 : P := (.l (.l (.l (.l (.r (.r .z))))))
abbrev t111 : Opd := .t p111
abbrev p112 : P := (.r (.l (.l (.l (.r (.r .z))))))
abbrev t112 : Opd := .t p112
abbrev p113 : P := (.l (.r (.l (.l (.r (.r .z))))))
abbrev t113 : Opd := .t p113
abbrev p114 : P := (.r (.r (.l (.l (.r (.r .z))))))
abbrev t114 : Opd := .t p114
abbrev p115 : P := (.l (.l (.r (.l (.r (.r .z))))))
abbrev t115 : Opd := .t p115
abbrev p116 : P := (.r (.l (.r (.l (.r (.r .z))))))
abbrev t116 : Opd := .t p116
abbrev p117 : P := (.l (.r (.r (.l (.r (.r .z))))))
abbrev t117 : Opd := .t p117
abbrev p118 : P := (.r (.r (.r (.l (.r (.r .z))))))
abbrev t118 : Opd := .t p118
abbrev p119 : P := (.l (.l (.l (.r (.r (.r .z))))))
abbrev t119 : Opd := .t p119
abbrev p120 : P := (.r (.l (.l (.r (.r (.r .z))))))
abbrev t120 : Opd := .t p120
abbrev p121 : P := (.l (.r (.l (.r (.r (.r .z))))))
abbrev t121 : Opd := .t p121
abbrev p122 : P := (.r (.r (.l (.r (.r (.r .z))))))
abbrev t122 : Opd := .t p122
abbrev p123 : P := (.l (.l (.r (.r (.r (.r .z))))))
abbrev t123 : Opd := .t p123
abbrev p124 : P := (.r (.l (.r (.r (.r (.r .z))))))
abbrev t124 : Opd := .t p124
def f11 : Fd := .mk [p0, p1]
 (.seq (.reg [mI p4 (.mv (.c (.bool false)))])
 (.seq (.reg [mI p17 (.mv t0),
  mI p18 (.bin .rem t17 (.c (.int .i64 (.ofNat 2147483648)))),
  mI p19 (.mv t1),
  mI p20 (.bin .rem t19 (.c (.int .i64 (.ofNat 2147483648)))),
  mI p0 (.mv t18),
  mI p1 (.mv t20)])
 (.seq (.reg [mI p21 (.bld [(.int .i64 (.ofNat 0)), (.int .i64 (.ofNat 0))] [(0, 1, (.c (.int .i64 (.ofNat 0)))), (1, 1, (.c (.int .i64 (.ofNat 1))))]),
  mI p22 (.bld [(.int .i64 (.ofNat 0)), (.int .i64 (.ofNat 0))] [(0, 1, (.c (.int .i64 (.ofNat 2)))), (1, 1, (.c (.int .i64 (.negSucc 0))))]),
  mI p23 (.bsl 2 2 [(.int .i64 (.ofNat 0)), (.int .i64 (.ofNat 0)), (.int .i64 (.ofNat 0)), (.int .i64 (.ofNat 0))] [(0, 2, t21), (2, 2, t22)]),
  mI p24 (.bld [(.int .i64 (.ofNat 0)), .nils] [(1, 1, t23)]),
  mI p25 (.bld [(.int .i64 (.ofNat 0)), .nils, (.bool false)] [(0, 2, t24), (2, 1, (.c (.bool true)))]),
  .loc p5 [(.int .i64 (.ofNat 0)), .nils, (.bool false)],
  .mk none none (.st 3 t5 t25)])
 (.seq (.reg [mI p26 (.bld [(.int .i64 (.ofNat 0)), (.int .i64 (.ofNat 0))] [(0, 1, (.c (.int .i64 (.ofNat 1)))), (1, 1, (.c (.int .i64 (.ofNat 1))))]),
  mI p27 (.bld [(.int .i64 (.ofNat 0)), (.int .i64 (.ofNat 0))] [(0, 1, (.c (.int .i64 (.ofNat 2)))), (1, 1, (.c (.int .i64 (.negSucc 0))))]),
  mI p28 (.bsl 2 2 [(.int .i64 (.ofNat 0)), (.int .i64 (.ofNat 0)), (.int .i64 (.ofNat 0)), (.int .i64 (.ofNat 0))] [(0, 2, t26), (2, 2, t27)]),
  mI p29 (.bld [(.int .i64 (.ofNat 0)), .nils] [(1, 1, t28)]),
  mI p30 (.bld [(.int .i64 (.ofNat 0)), .nils, (.bool false)] [(0, 2, t29), (2, 1, (.c (.bool true)))]),
  .loc p6 [(.int .i64 (.ofNat 0)), .nils, (.bool false)],
  .mk none none (.st 3 t6 t30)])
 (.seq (.reg [mI p31 (.mv t0),
  mI p32 (.neg t31),
  mI p33 (.call p48 [(.c (.int .i64 (.ofNat 0))), (.c (.int .i64 (.ofNat 1))), t32]),
  mI p34 (.bld [(.int .i64 (.ofNat 0)), .nils, (.bool false)] [(0, 2, t33), (2, 1, (.c (.bool true)))]),
  .loc p7 [(.int .i64 (.ofNat 0)), .nils, (.bool false)],
  .mk none none (.st 3 t7 t34)])
 (.seq (.reg [mI p35 (.mv t1),
  mI p36 (.neg t35),
  mI p37 (.call p48 [(.c (.int .i64 (.ofNat 1))), (.c (.int .i64 (.ofNat 1))), t36]),
  mI p38 (.bld [(.int .i64 (.ofNat 0)), .nils, (.bool false)] [(0, 2, t37), (2, 1, (.c (.bool true)))]),
  .loc p8 [(.int .i64 (.ofNat 0)), .nils, (.bool false)],
  .mk none none (.st 3 t8 t38)])
 (.seq (.reg [mI p40 (.lda 3 t5),
  mI p41 (.lda 3 t6),
  mI p42 (.lda 3 t7),
  mI p43 (.bsl 3 3 [(.int .i64 (.ofNat 0)), .nils, (.bool false), (.int .i64 (.ofNat 0)), .nils, (.bool false), (.int .i64 (.ofNat 0)), .nils, (.bool false)] [(0, 3, t40), (3, 3, t41), (6, 3, t42)]),
  mI p44 (.call p45 [(.c (.int .i64 (.ofNat 3))), t43, (.c (.int .i64 (.ofNat 100)))]),
  mI p39 (.mv t44),
  mI p45 (.ex t39 0),
  mI p46 (.ex t39 1),
  mI p47 (.ex t39 2),
  mI p48 (.ex t39 3),
  mI p9 (.mv t45),
  mI p10 (.mv t46),
  mI p11 (.mv t47),
  mI p12 (.mv t48)])
 (.seq (.reg [mI p50 (.lda 3 t5),
  mI p51 (.lda 3 t7),
  mI p52 (.lda 3 t6),
  mI p53 (.lda 3 t8),
  mI p54 (.bsl 4 3 [(.int .i64 (.ofNat 0)), .nils, (.bool false), (.int .i64 (.ofNat 0)), .nils, (.bool false), (.int .i64 (.ofNat 0)), .nils, (.bool false), (.int .i64 (.ofNat 0)), .nils, (.bool false)] [(0, 3, t50), (3, 3, t51), (6, 3, t52), (9, 3, t53)]),
  mI p55 (.call p45 [(.c (.int .i64 (.ofNat 3))), t54, (.c (.int .i64 (.ofNat 100)))]),
  mI p49 (.mv t55),
  mI p56 (.ex t49 0),
  mI p57 (.ex t49 1),
  mI p58 (.ex t49 2),
  mI p59 (.ex t49 3),
  mI p13 (.mv t56),
  mI p14 (.mv t57),
  mI p15 (.mv t58),
  mI p16 (.mv t59)])
 (.seq (.reg [mI p60 (.mv t12),
  mI p61 (.bin .eq t60 (.c (.int .i64 (.ofNat 0)))),
  mI p62 (.mv t61),
  .mk (some p63) (some (p62, true)) (.mv t16),
  .mk (some p64) (some (p62, true)) (.bin .eq t63 (.c (.int .i64 (.ofNat 0)))),
  mI p65 (.pick t62 t64 (.c (.bool false))),
  mI p66 (.mv t65),
  .mk (some p67) (some (p66, true)) (.mv t9),
  .mk (some p68) (some (p66, true)) (.bin .eq t67 (.c (.int .i64 (.ofNat 2)))),
  mI p69 (.pick t66 t68 (.c (.bool false))),
  mI p70 (.mv t69),
  .mk (some p71) (some (p70, true)) (.mv t10),
  .mk (some p72) (some (p70, true)) (.mv t0),
  .mk (some p73) (some (p70, true)) (.mv t0),
  .mk (some p74) (some (p70, true)) (.mv t0),
  .mk (some p75) (some (p70, true)) (.bsl 3 1 [(.int .i64 (.ofNat 0)), (.int .i64 (.ofNat 0)), (.int .i64 (.ofNat 0))] [(0, 1, t72), (1, 1, t73), (2, 1, t74)]),
  .mk (some p76) (some (p70, true)) (.call p47 [t71, t75]),
  mI p77 (.pick t70 t76 (.c (.bool false))),
  mI p78 (.mv t77),
  .mk (some p79) (some (p78, true)) (.mv t13),
  .mk (some p80) (some (p78, true)) (.bin .eq t79 (.c (.int .i64 (.ofNat 2)))),
  .mk (some p81) (some (p78, true)) (.mv t0),
  .mk (some p82) (some (p78, true)) (.mv t1),
  .mk (some p83) (some (p78, true)) (.bin .eq t81 t82),
  .mk (some p84) (some (p78, true)) (.beq false t80 t83),
  mI p85 (.pick t78 t84 (.c (.bool false))),
  mI p86 (.mv t85),
  .mk (some p87) (some (p86, true)) (.mv t13),
  .mk (some p88) (some (p86, true)) (.bin .eq t87 (.c (.int .i64 (.ofNat 2)))),
  .mk (some p89) (some (p86, true)) (.mv t88),
  .mk (some p90) (some (p89, false)) (.mv t13),
  .mk (some p91) (some (p89, false)) (.bin .eq t90 (.c (.int .i64 (.ofNat 1)))),
  .mk (some p92) (some (p86, true)) (.pick t89 (.c (.bool true)) t91),
  mI p93 (.pick t86 t92 (.c (.bool false))),
  mI p94 (.mv t93),
  .mk (some p95) (some (p94, true)) (.call p46 []),
  mI p96 (.pick t94 t95 (.c (.bool false))),
  mI p4 (.mv t96)])
 .ret)))))))))
 [.t p4]
def ls11 : List Nat := [5, 6, 7, 8]
def f48 : Fd := .mk [p0, p1, p2]
 (.seq (.reg [.loc p6 [(.int .i64 (.ofNat 0)), .nils]])
 (.seq (.reg [mI p7 (.mv t2),
  mI p8 (.mv t0),
  mI p9 (.mv t1),
  mI p10 (.bld [(.int .i64 (.ofNat 0)), (.int .i64 (.ofNat 0))] [(0, 1, t8), (1, 1, t9)]),
  mI p11 (.bsl 1 2 [(.int .i64 (.ofNat 0)), (.int .i64 (.ofNat 0))] [(0, 2, t10)]),
  mI p12 (.bld [(.int .i64 (.ofNat 0)), .nils] [(0, 1, t7), (1, 1, t11)]),
  .mk none none (.st 2 t6 t12)])
 .ret))
 [.cell p6 (some 2)]
def ls48 : List Nat := [6]
def f45 : Fd := .mk [p0, p1, p2]
 (.seq (.reg [mI p6 (.mv (.c (.int .i64 (.ofNat 0)))),
  mI p7 (.mv (.c .nils)),
  mI p8 (.mv (.c (.int .i64 (.ofNat 0)))),
  mI p9 (.mv (.c (.int .i64 (.ofNat 0))))])
 (.seq (.seq (.reg [mI p13 (.mv t0),
  mI p14 (.bin .lt t13 (.c (.int .i64 (.ofNat 0)))),
  mI p15 (.mv t14),
  .mk (some p16) (some (p15, false)) (.mv t0),
  .mk (some p17) (some (p15, false)) (.bin .gt t16 (.c (.int .i64 (.ofNat 40)))),
  mI p18 (.pick t15 (.c (.bool true)) t17),
  mI p19 (.mv t18),
  .mk (some p20) (some (p19, false)) (.mv t2),
  .mk (some p21) (some (p19, false)) (.bin .lt t20 (.c (.int .i64 (.ofNat 0)))),
  mI p22 (.pick t19 (.c (.bool true)) t21),
  mI p23 (.mv t22),
  .mk (some p24) (some (p23, false)) (.mv t2),
  .mk (some p25) (some (p23, false)) (.bin .gt t24 (.c (.int .i64 (.ofNat 4000)))),
  mI p26 (.pick t23 (.c (.bool true)) t25),
  mI p27 (.mv t26),
  .mk (some p28) (some (p27, false)) (.mv t1),
  .mk (some p29) (some (p27, false)) (.len t28),
  .mk (some p30) (some (p27, false)) (.bin .gt t29 (.c (.int .i64 (.ofNat 240)))),
  mI p31 (.pick t27 (.c (.bool true)) t30)])
 (.cond t31 (.seq (.reg [mI p6 (.mv (.c (.int .i64 (.ofNat 0)))),
  mI p7 (.mv (.c .nils)),
  mI p8 (.mv (.c (.int .i64 (.ofNat 0)))),
  mI p9 (.mv (.c (.int .i64 (.ofNat 1))))])
 .ret) .skip))
 (.seq (.seq (.reg [mI p32 (.mv t1),
  mI p33 (.len t32),
  mI p34 (.mv (.c (.int .i64 (.ofNat 0))))])
 (.block 0 (.loop [p0, p1, p2, p7, p32, p33, p34] (.seq (.reg [mI p35 (.bin .lt t34 t33)])
 (.seq (.cond t35 .skip (.exit 0))
 (.seq (.block 1 (.seq (.reg [mI p36 (.ia 3 t32 t34),
  mI p37 (.lda 3 t36),
  .loc p11 [(.int .i64 (.ofNat 0)), .nils, (.bool false)],
  .mk none none (.st 3 t11 t37)])
 (.seq (.reg [mI p38 (.fa 0 t11),
  mI p39 (.lda 2 t38),
  mI p40 (.call p66 [t39]),
  mI p41 (.bin .ne t40 (.c (.int .i64 (.ofNat 0)))),
  mI p42 (.mv t41),
  .mk (some p43) (some (p42, false)) (.fa 0 t11),
  .mk (some p44) (some (p42, false)) (.fa 1 t43),
  .mk (some p45) (some (p42, false)) (.ld t44),
  .mk (some p46) (some (p42, false)) (.len t45),
  .mk (some p47) (some (p42, false)) (.bin .gt t46 (.c (.int .i64 (.ofNat 0)))),
  .mk (some p48) (some (p42, false)) (.mv t47),
  .mk (some p49) (some (p48, true)) (.fa 0 t11),
  .mk (some p50) (some (p48, true)) (.fa 1 t49),
  .mk (some p51) (some (p48, true)) (.ld t50),
  .mk (some p52) (some (p48, true)) (.fa 0 t11),
  .mk (some p53) (some (p48, true)) (.fa 1 t52),
  .mk (some p54) (some (p48, true)) (.ld t53),
  .mk (some p55) (some (p48, true)) (.len t54),
  .mk (some p56) (some (p48, true)) (.bin .sub t55 (.c (.int .i64 (.ofNat 1)))),
  .mk (some p57) (some (p48, true)) (.ia 2 t51 t56),
  .mk (some p58) (some (p48, true)) (.fa 0 t57),
  .mk (some p59) (some (p48, true)) (.ld t58),
  .mk (some p60) (some (p48, true)) (.mv t0),
  .mk (some p61) (some (p48, true)) (.bin .ge t59 t60),
  .mk (some p62) (some (p42, false)) (.pick t48 t61 (.c (.bool false))),
  mI p63 (.pick t42 (.c (.bool true)) t62)])
 (.cond t63 (.seq (.reg [mI p6 (.mv (.c (.int .i64 (.ofNat 0)))),
  mI p7 (.mv (.c .nils)),
  mI p8 (.mv (.c (.int .i64 (.ofNat 0)))),
  mI p9 (.mv (.c (.int .i64 (.ofNat 1))))])
 .ret) .skip))))
 (.reg [mI p64 (.bin .add t34 (.c (.int .i64 (.ofNat 1)))),
  mI p34 (.mv t64)])))))))
 (.seq (.reg [mI p65 (.mv t2),
  mI p66 (.mv t0),
  mI p67 (.msl 1 8 [(.int .i64 (.ofNat 0))] t66 t66),
  mI p68 (.bld [(.int .i64 (.ofNat 0)), .nils] [(0, 1, t65), (1, 1, t67)]),
  mI p69 (.bx t68),
  mI p12 (.mv t69)])
 (.seq (.reg [mI p70 (.mv t12),
  mI p71 (.mv t1),
  mI p72 (.call p80 [t71]),
  mI p73 (.mv t0),
  mI p74 (.call p81 [t73]),
  mI p75 (.app 3 40 t72 t74),
  mI p76 (.call p79 [t70, t75]),
  mI p6 (.mv t76)])
 (.seq (.seq (.reg [mI p77 (.mv t6),
  mI p78 (.bin .eq t77 (.c (.int .i64 (.ofNat 2))))])
 (.cond t78 (.reg [mI p79 (.mv t12),
  mI p80 (.nc t79),
  mI p81 (.fa 1 t80),
  mI p82 (.ld t81),
  mI p7 (.mv t82)]) .skip))
 (.seq (.drw [.mk true [p6] [p83] true (mI p83 (.mv t6)),
  .mk true [p7] [p84] true (mI p84 (.mv t7)),
  .mk true [p12] [p85] true (mI p85 (.mv t12)),
  .mk true [p85] [p86] true (mI p86 (.nc t85)),
  .mk true [p86] [p87] true (mI p87 (.fa 0 t86)),
  .mk true [p87] [p88] true (mI p88 (.ld t87)),
  .mk true [p83] [p6] true (mI p6 (.mv t83)),
  .mk true [p84] [p7] true (mI p7 (.mv t84)),
  .mk true [p88] [p8] true (mI p8 (.mv t88)),
  .mk true [] [p9] true (mI p9 (.mv (.c (.int .i64 (.ofNat 0)))))])
 .ret)))))))
 [.t p6, .t p7, .t p8, .t p9]
def ls45 : List Nat := [11]
def f47 : Fd := .mk [p0, p1]
 (.seq (.reg [mI p4 (.mv (.c (.bool false)))])
 (.seq (.seq (.reg [mI p6 (.mv t0),
  mI p7 (.len t6),
  mI p8 (.mv t1),
  mI p9 (.len t8),
  mI p10 (.bin .ne t7 t9)])
 (.cond t10 (.seq (.reg [mI p4 (.mv (.c (.bool false)))])
 .ret) .skip))
 (.seq (.seq (.reg [mI p5 (.mv (.c (.int .i64 (.ofNat 0))))])
 (.block 0 (.loop [p0, p1, p5] (.seq (.seq (.reg [mI p11 (.mv t5),
  mI p12 (.mv t0),
  mI p13 (.len t12),
  mI p14 (.bin .lt t11 t13)])
 (.cond t14 .skip (.exit 0)))
 (.seq (.block 1 (.seq (.drw [.mk true [p0] [p17] true (mI p17 (.mv t0)),
  .mk true [p5] [p18] true (mI p18 (.mv t5)),
  .mk true [p17, p18] [p19] true (mI p19 (.ia 1 t17 t18)),
  .mk true [p19] [p20] true (mI p20 (.ld t19)),
  .mk true [p1] [p21] true (mI p21 (.mv t1)),
  .mk true [p5] [p22] true (mI p22 (.mv t5)),
  .mk true [p21, p22] [p23] true (mI p23 (.ia 1 t21 t22)),
  .mk true [p23] [p24] true (mI p24 (.ld t23)),
  .mk true [p20, p24] [p25] true (mI p25 (.bin .ne t20 t24))])
 (.cond t25 (.seq (.reg [mI p4 (.mv (.c (.bool false)))])
 .ret) .skip)))
 (.reg [mI p15 (.mv t5),
  mI p16 (.bin .add t15 (.c (.int .i64 (.ofNat 1)))),
  mI p5 (.mv t16)]))))))
 (.seq (.reg [mI p4 (.mv (.c (.bool true)))])
 .ret))))
 [.t p4]
def ls47 : List Nat := []
def f46 : Fd := .mk []
 (.seq (.reg [mI p0 (.mv (.c (.bool false)))])
 (.seq (.reg [mI p15 (.bld [(.int .i64 (.ofNat 0)), (.int .i64 (.ofNat 0))] [(0, 1, (.c (.int .i64 (.ofNat 0)))), (1, 1, (.c (.int .i64 (.ofNat 1))))]),
  mI p16 (.bld [(.int .i64 (.ofNat 0)), (.int .i64 (.ofNat 0))] [(0, 1, (.c (.int .i64 (.ofNat 1)))), (1, 1, (.c (.int .i64 (.negSucc 0))))]),
  mI p17 (.bsl 2 2 [(.int .i64 (.ofNat 0)), (.int .i64 (.ofNat 0)), (.int .i64 (.ofNat 0)), (.int .i64 (.ofNat 0))] [(0, 2, t15), (2, 2, t16)]),
  mI p18 (.bld [(.int .i64 (.ofNat 0)), .nils] [(0, 1, (.c (.int .i64 (.ofNat 1)))), (1, 1, t17)]),
  mI p19 (.bld [(.int .i64 (.ofNat 0)), .nils, (.bool false)] [(0, 2, t18)]),
  .loc p1 [(.int .i64 (.ofNat 0)), .nils, (.bool false)],
  .mk none none (.st 3 t1 t19)])
 (.seq (.reg [mI p20 (.bld [(.int .i64 (.ofNat 0)), (.int .i64 (.ofNat 0))] [(0, 1, (.c (.int .i64 (.ofNat 0)))), (1, 1, (.c (.int .i64 (.negSucc 0))))]),
  mI p21 (.bld [(.int .i64 (.ofNat 0)), (.int .i64 (.ofNat 0))] [(0, 1, (.c (.int .i64 (.ofNat 1)))), (1, 1, (.c (.int .i64 (.ofNat 1))))]),
  mI p22 (.bsl 2 2 [(.int .i64 (.ofNat 0)), (.int .i64 (.ofNat 0)), (.int .i64 (.ofNat 0)), (.int .i64 (.ofNat 0))] [(0, 2, t20), (2, 2, t21)]),
  mI p23 (.bld [(.int .i64 (.ofNat 0)), .nils] [(0, 1, (.c (.int .i64 (.ofNat 1)))), (1, 1, t22)]),
  mI p24 (.bld [(.int .i64 (.ofNat 0)), .nils, (.bool false)] [(0, 2, t23)]),
  .loc p2 [(.int .i64 (.ofNat 0)), .nils, (.bool false)],
  .mk none none (.st 3 t2 t24)])
 (.seq (.reg [mI p26 (.lda 3 t1),
  mI p27 (.bsl 1 3 [(.int .i64 (.ofNat 0)), .nils, (.bool false)] [(0, 3, t26)]),
  mI p28 (.call p45 [(.c (.int .i64 (.ofNat 2))), t27, (.c (.int .i64 (.ofNat 100)))]),
  mI p25 (.mv t28),
  mI p29 (.ex t25 0),
  mI p30 (.ex t25 1),
  mI p31 (.ex t25 2),
  mI p32 (.ex t25 3),
  mI p3 (.mv t29),
  mI p4 (.mv t30),
  mI p5 (.mv t31),
  mI p6 (.mv t32)])
 (.seq (.reg [mI p34 (.lda 3 t1),
  mI p35 (.lda 3 t2),
  mI p36 (.bsl 2 3 [(.int .i64 (.ofNat 0)), .nils, (.bool false), (.int .i64 (.ofNat 0)), .nils, (.bool false)] [(0, 3, t34), (3, 3, t35)]),
  mI p37 (.call p45 [(.c (.int .i64 (.ofNat 2))), t36, (.c (.int .i64 (.ofNat 100)))]),
  mI p33 (.mv t37),
  mI p38 (.ex t33 0),
  mI p39 (.ex t33 1),
  mI p40 (.ex t33 2),
  mI p41 (.ex t33 3),
  mI p7 (.mv t38),
  mI p8 (.mv t39),
  mI p9 (.mv t40),
  mI p10 (.mv t41)])
 (.seq (.reg [mI p43 (.lda 3 t1),
  mI p44 (.bsl 1 3 [(.int .i64 (.ofNat 0)), .nils, (.bool false)] [(0, 3, t43)]),
  mI p45 (.call p45 [(.c (.int .i64 (.ofNat 2))), t44, (.c (.int .i64 (.ofNat 0)))]),
  mI p42 (.mv t45),
  mI p46 (.ex t42 0),
  mI p47 (.ex t42 1),
  mI p48 (.ex t42 2),
  mI p49 (.ex t42 3),
  mI p11 (.mv t46),
  mI p12 (.mv t47),
  mI p13 (.mv t48),
  mI p14 (.mv t49)])
 (.seq (.drw [.mk true [p6] [p50] true (mI p50 (.mv t6)),
  .mk true [p50] [p51] true (mI p51 (.bin .eq t50 (.c (.int .i64 (.ofNat 0))))),
  .mk true [p51] [p52] true (mI p52 (.mv t51)),
  .mk true [p10, p52] [p53] true (.mk (some p53) (some (p52, true)) (.mv t10)),
  .mk true [p53, p52] [p54] true (.mk (some p54) (some (p52, true)) (.bin .eq t53 (.c (.int .i64 (.ofNat 0))))),
  .mk true [p52, p54] [p55] true (mI p55 (.pick t52 t54 (.c (.bool false)))),
  .mk true [p55] [p56] true (mI p56 (.mv t55)),
  .mk true [p14, p56] [p57] true (.mk (some p57) (some (p56, true)) (.mv t14)),
  .mk true [p57, p56] [p58] true (.mk (some p58) (some (p56, true)) (.bin .eq t57 (.c (.int .i64 (.ofNat 0))))),
  .mk true [p56, p58] [p59] true (mI p59 (.pick t56 t58 (.c (.bool false)))),
  .mk true [p59] [p60] true (mI p60 (.mv t59)),
  .mk true [p3, p60] [p61] true (.mk (some p61) (some (p60, true)) (.mv t3)),
  .mk true [p61, p60] [p62] true (.mk (some p62) (some (p60, true)) (.bin .eq t61 (.c (.int .i64 (.ofNat 2))))),
  .mk true [p60, p62] [p63] true (mI p63 (.pick t60 t62 (.c (.bool false)))),
  .mk true [p63] [p64] true (mI p64 (.mv t63)),
  .mk true [p4, p64] [p65] true (.mk (some p65) (some (p64, true)) (.mv t4)),
  .mk true [p65, p64] [p66] true (.mk (some p66) (some (p64, true)) (.len t65)),
  .mk true [p66, p64] [p67] true (.mk (some p67) (some (p64, true)) (.bin .eq t66 (.c (.int .i64 (.ofNat 2))))),
  .mk true [p64, p67] [p68] true (mI p68 (.pick t64 t67 (.c (.bool false)))),
  .mk true [p68] [p69] true (mI p69 (.mv t68)),
  .mk true [p4, p69] [p70] true (.mk (some p70) (some (p69, true)) (.mv t4)),
  .mk true [p70, p69] [p71] true (.mk (some p71) (some (p69, true)) (.ia 1 t70 (.c (.int .i64 (.ofNat 0))))),
  .mk true [p71, p69] [p72] true (.mk (some p72) (some (p69, true)) (.ld t71)),
  .mk true [p4, p69] [p73] true (.mk (some p73) (some (p69, true)) (.mv t4)),
  .mk true [p73, p69] [p74] true (.mk (some p74) (some (p69, true)) (.ia 1 t73 (.c (.int .i64 (.ofNat 1))))),
  .mk true [p74, p69] [p75] true (.mk (some p75) (some (p69, true)) (.ld t74)),
  .mk true [p72, p75, p69] [p76] true (.mk (some p76) (some (p69, true)) (.bin .lt t72 t75)),
  .mk true [p69, p76] [p77] true (mI p77 (.pick t69 t76 (.c (.bool false)))),
  .mk true [p77] [p78] true (mI p78 (.mv t77)),
  .mk true [p7, p78] [p79] true (.mk (some p79) (some (p78, true)) (.mv t7)),
  .mk true [p79, p78] [p80] true (.mk (some p80) (some (p78, true)) (.bin .eq t79 (.c (.int .i64 (.ofNat 1))))),
  .mk true [p78, p80] [p81] true (mI p81 (.pick t78 t80 (.c (.bool false)))),
  .mk true [p81] [p82] true (mI p82 (.mv t81)),
  .mk true [p11, p82] [p83] true (.mk (some p83) (some (p82, true)) (.mv t11)),
  .mk true [p83, p82] [p84] true (.mk (some p84) (some (p82, true)) (.bin .eq t83 (.c (.int .i64 (.ofNat 3))))),
  .mk true [p82, p84] [p85] true (mI p85 (.pick t82 t84 (.c (.bool false)))),
  .mk true [p85] [p0] true (mI p0 (.mv t85))])
 .ret)))))))
 [.t p0]
def ls46 : List Nat := [1, 2]
def f66 : Fd := .mk [p0]
 (.seq (.reg [.locb p1 t0,
  mI p2 (.mv (.c (.int .i64 (.ofNat 0))))])
 (.seq (.seq (.reg [mI p5 (.fa 0 t1),
  mI p6 (.ld t5),
  mI p7 (.call p91 [t6, (.c (.int .i64 (.ofNat 1099511627776)))]),
  mI p8 (.not t7),
  mI p9 (.mv t8),
  .mk (some p10) (some (p9, false)) (.fa 1 t1),
  .mk (some p11) (some (p9, false)) (.ld t10),
  .mk (some p12) (some (p9, false)) (.len t11),
  .mk (some p13) (some (p9, false)) (.bin .gt t12 (.c (.int .i64 (.ofNat 40)))),
  mI p14 (.pick t9 (.c (.bool true)) t13)])
 (.cond t14 (.seq (.reg [mI p2 (.mv (.c (.int .i64 (.ofNat 1))))])
 .ret) .skip))
 (.seq (.seq (.reg [mI p15 (.fa 1 t1),
  mI p16 (.ld t15),
  mI p17 (.len t16),
  mI p18 (.mv (.c (.int .i64 (.ofNat 0))))])
 (.block 0 (.loop [p1, p16, p17, p18] (.seq (.reg [mI p19 (.bin .lt t18 t17)])
 (.seq (.cond t19 .skip (.exit 0))
 (.seq (.block 1 (.seq (.reg [mI p20 (.mv t18),
  mI p21 (.ia 2 t16 t18),
  mI p22 (.lda 2 t21),
  .loc p4 [(.int .i64 (.ofNat 0)), (.int .i64 (.ofNat 0))],
  mI p3 (.mv t20),
  .mk none none (.st 2 t4 t22)])
 (.seq (.drw [.mk true [p4] [p23] true (mI p23 (.fa 0 t4)),
  .mk true [p4, p23] [p24] true (mI p24 (.ld t23)),
  .mk true [p24] [p25] true (mI p25 (.bin .lt t24 (.c (.int .i64 (.ofNat 0))))),
  .mk true [p25] [p26] true (mI p26 (.mv t25)),
  .mk true [p4, p26] [p27] true (.mk (some p27) (some (p26, false)) (.fa 0 t4)),
  .mk true [p4, p27, p26] [p28] true (.mk (some p28) (some (p26, false)) (.ld t27)),
  .mk true [p28, p26] [p29] true (.mk (some p29) (some (p26, false)) (.bin .ge t28 (.c (.int .i64 (.ofNat 40))))),
  .mk true [p26, p29] [p30] true (mI p30 (.pick t26 (.c (.bool true)) t29)),
  .mk true [p30] [p31] true (mI p31 (.mv t30)),
  .mk true [p3, p31] [p32] true (.mk (some p32) (some (p31, false)) (.mv t3)),
  .mk true [p32, p31] [p33] true (.mk (some p33) (some (p31, false)) (.bin .gt t32 (.c (.int .i64 (.ofNat 0))))),
  .mk true [p33, p31] [p34] true (.mk (some p34) (some (p31, false)) (.mv t33)),
  .mk true [p4, p34] [p35] true (.mk (some p35) (some (p34, true)) (.fa 0 t4)),
  .mk true [p4, p35, p34] [p36] true (.mk (some p36) (some (p34, true)) (.ld t35)),
  .mk true [p1, p34] [p37] true (.mk (some p37) (some (p34, true)) (.fa 1 t1)),
  .mk true [p1, p37, p34] [p38] true (.mk (some p38) (some (p34, true)) (.ld t37)),
  .mk true [p3, p34] [p39] true (.mk (some p39) (some (p34, true)) (.mv t3)),
  .mk true [p39, p34] [p40] true (.mk (some p40) (some (p34, true)) (.bin .sub t39 (.c (.int .i64 (.ofNat 1))))),
  .mk true [p38, p40, p34] [p41] true (.mk (some p41) (some (p34, true)) (.ia 2 t38 t40)),
  .mk true [p41, p34] [p42] true (.mk (some p42) (some (p34, true)) (.fa 0 t41)),
  .mk true [p42, p34] [p43] true (.mk (some p43) (some (p34, true)) (.ld t42)),
  .mk true [p36, p43, p34] [p44] true (.mk (some p44) (some (p34, true)) (.bin .le t36 t43)),
  .mk true [p34, p44, p31] [p45] true (.mk (some p45) (some (p31, false)) (.pick t34 t44 (.c (.bool false)))),
  .mk true [p31, p45] [p46] true (mI p46 (.pick t31 (.c (.bool true)) t45)),
  .mk true [p46] [p47] true (mI p47 (.mv t46)),
  .mk true [p4, p47] [p48] true (.mk (some p48) (some (p47, false)) (.fa 1 t4)),
  .mk true [p4, p48, p47] [p49] true (.mk (some p49) (some (p47, false)) (.ld t48)),
  .mk true [p49, p47] [p50] true (.mk (some p50) (some (p47, false)) (.bin .eq t49 (.c (.int .i64 (.ofNat 0))))),
  .mk true [p47, p50] [p51] true (mI p51 (.pick t47 (.c (.bool true)) t50)),
  .mk true [p51] [p52] true (mI p52 (.mv t51)),
  .mk true [p4, p52] [p53] true (.mk (some p53) (some (p52, false)) (.fa 1 t4)),
  .mk true [p4, p53, p52] [p54] true (.mk (some p54) (some (p52, false)) (.ld t53)),
  .mk true [p54, p52] [p55] false (.mk (some p55) (some (p52, false)) (.call p91 [t54, (.c (.int .i64 (.ofNat 1048576)))])),
  .mk true [p55, p52] [p56] true (.mk (some p56) (some (p52, false)) (.not t55)),
  .mk true [p52, p56] [p57] true (mI p57 (.pick t52 (.c (.bool true)) t56))])
 (.cond t57 (.seq (.reg [mI p2 (.mv (.c (.int .i64 (.ofNat 1))))])
 .ret) .skip))))
 (.reg [mI p58 (.bin .add t18 (.c (.int .i64 (.ofNat 1)))),
  mI p18 (.mv t58)])))))))
 (.seq (.reg [mI p2 (.mv (.c (.int .i64 (.ofNat 0))))])
 .ret))))
 [.t p2]
def ls66 : List Nat := [1, 4]
def f80 : Fd := .mk [p0]
 (.seq (.reg [mI p2 (.mv (.c .nils))])
 (.seq (.seq (.reg [mI p3 (.mv t0),
  mI p4 (.isnil false t3)])
 (.cond t4 (.seq (.reg [mI p2 (.mv (.c .nils))])
 .ret) .skip))
 (.seq (.reg [mI p5 (.bsl 0 3 [] []),
  mI p6 (.mv t0),
  mI p7 (.app 3 40 t5 t6),
  mI p2 (.mv t7)])
 .ret)))
 [.t p2]
def ls80 : List Nat := []
def f81 : Fd := .mk [p0]
 (.seq (.reg [mI p2 (.mv (.c .nils))])
 (.seq (.reg [mI p3 (.mv (.c .nils))])
 (.seq (.seq (.reg [mI p5 (.mv t0),
  mI p6 (.mv (.c (.int .i64 (.ofNat 0))))])
 (.block 0 (.loop [p3, p5, p6] (.seq (.reg [mI p7 (.bin .lt t6 t5)])
 (.seq (.cond t7 .skip (.exit 0))
 (.seq (.block 1 (.seq (.reg [mI p8 (.mv t6),
  mI p4 (.mv t8)])
 (.reg [mI p9 (.mv t3),
  mI p10 (.mv t4),
  mI p11 (.bld [(.int .i64 (.ofNat 0)), (.int .i64 (.ofNat 0))] [(0, 1, t10), (1, 1, (.c (.int .i64 (.ofNat 1))))]),
  mI p12 (.bsl 1 2 [(.int .i64 (.ofNat 0)), (.int .i64 (.ofNat 0))] [(0, 2, t11)]),
  mI p13 (.bld [(.int .i64 (.ofNat 0)), .nils] [(0, 1, (.c (.int .i64 (.negSucc 2147483646)))), (1, 1, t12)]),
  mI p14 (.bld [(.int .i64 (.ofNat 0)), .nils, (.bool false)] [(0, 2, t13)]),
  mI p15 (.mv t4),
  mI p16 (.bld [(.int .i64 (.ofNat 0)), (.int .i64 (.ofNat 0))] [(0, 1, t15), (1, 1, (.c (.int .i64 (.negSucc 0))))]),
  mI p17 (.bsl 1 2 [(.int .i64 (.ofNat 0)), (.int .i64 (.ofNat 0))] [(0, 2, t16)]),
  mI p18 (.bld [(.int .i64 (.ofNat 0)), .nils] [(0, 1, (.c (.int .i64 (.negSucc 2147483647)))), (1, 1, t17)]),
  mI p19 (.bld [(.int .i64 (.ofNat 0)), .nils, (.bool false)] [(0, 2, t18)]),
  mI p20 (.bsl 2 3 [(.int .i64 (.ofNat 0)), .nils, (.bool false), (.int .i64 (.ofNat 0)), .nils, (.bool false)] [(0, 3, t14), (3, 3, t19)]),
  mI p21 (.app 3 40 t9 t20),
  mI p3 (.mv t21)])))
 (.reg [mI p22 (.bin .add t6 (.c (.int .i64 (.ofNat 1)))),
  mI p6 (.mv t22)])))))))
 (.seq (.reg [mI p23 (.mv t3),
  mI p2 (.mv t23)])
 .ret))))
 [.t p2]
def ls81 : List Nat := []
def f79 : Fd := .mk [p0, p1]
 (.seq (.reg [mI p4 (.mv (.c (.int .i64 (.ofNat 0))))])
 (.seq (.reg [mI p18 (.mv t1),
  mI p19 (.call p98 [t18]),
  mI p17 (.mv t19),
  mI p20 (.ex t17 0),
  mI p21 (.ex t17 1),
  mI p22 (.ex t17 2),
  mI p1 (.mv t20),
  mI p5 (.mv t21),
  mI p6 (.mv t22)])
 (.seq (.block 0 (.seq (.reg [mI p24 (.mv t6),
  mI p25 (.bin .ne t24 (.c (.int .i64 (.ofNat 0)))),
  mI p23 (.mv t25)])
 (.cond t23 (.seq (.reg [mI p4 (.mv (.c (.int .i64 (.ofNat 4))))])
 .ret) (.seq (.reg [mI p27 (.mv t5),
  mI p28 (.bin .ne t27 (.c (.int .i64 (.ofNat 0)))),
  mI p26 (.mv t28)])
 (.cond t26 (.seq (.reg [mI p29 (.mv t5),
  mI p4 (.mv t29)])
 .ret) (.seq (.reg [mI p31 (.mv t1),
  mI p32 (.len t31),
  mI p33 (.bin .gt t32 (.c (.int .i64 (.ofNat 240)))),
  mI p30 (.mv t33)])
 (.cond t30 (.seq (.reg [mI p4 (.mv (.c (.int .i64 (.ofNat 3))))])
 .ret) .skip)))))))
 (.seq (.reg [mI p35 (.mv t1),
  mI p36 (.call p17 [t35]),
  mI p34 (.mv t36),
  mI p37 (.ex t34 0),
  mI p38 (.ex t34 1),
  mI p39 (.ex t34 2),
  mI p7 (.mv t37),
  mI p8 (.mv t38),
  mI p6 (.mv t39)])
 (.seq (.seq (.reg [mI p40 (.mv t6),
  mI p41 (.bin .eq t40 (.c (.int .i64 (.ofNat 0))))])
 (.cond t41 (.seq (.seq (.reg [mI p42 (.mv t0),
  mI p43 (.call p99 [t42, (.c (.int .i64 (.ofNat 1)))]),
  mI p44 (.not t43)])
 (.cond t44 (.seq (.reg [mI p4 (.mv (.c (.int .i64 (.ofNat 3))))])
 .ret) .skip))
 (.seq (.reg [mI p46 (.mv t1),
  mI p47 (.mv t7),
  mI p48 (.ia 3 t46 t47),
  mI p49 (.lda 3 t48),
  mI p50 (.mv t8),
  mI p51 (.call p37 [t49, t50]),
  mI p45 (.mv t51),
  mI p52 (.ex t45 0),
  mI p53 (.ex t45 1),
  .loc p9 [(.int .i64 (.ofNat 0)), .nils],
  .mk none none (.st 2 t9 t52),
  mI p10 (.mv t53)])
 (.seq (.drw [.mk true [p0] [p54] true (mI p54 (.mv t0)),
  .mk true [p1] [p55] true (mI p55 (.mv t1)),
  .mk true [p55] [p56] false (mI p56 (.call p80 [t55])),
  .mk true [p7] [p57] true (mI p57 (.mv t7)),
  .mk true [p7] [p58] true (mI p58 (.mv t7)),
  .mk true [p58] [p59] true (mI p59 (.bin .add t58 (.c (.int .i64 (.ofNat 1))))),
  .mk true [p56, p57, p59] [p60] false (mI p60 (.call p101 [t56, t57, t59])),
  .mk true [p8] [p61] true (mI p61 (.mv t8)),
  .mk true [p9] [p62] true (mI p62 (.vla 2 t9)),
  .mk true [p54, p60, p61, p62] [p63] false (mI p63 (.call p100 [t54, t60, t61, t62])),
  .mk true [p63] [p4] true (mI p4 (.mv t63))])
 .ret))) .skip))
 (.seq (.reg [mI p64 (.mv t1),
  mI p65 (.call p102 [t64]),
  mI p1 (.mv t65)])
 (.seq (.seq (.reg [mI p66 (.mv t1),
  mI p67 (.len t66),
  mI p68 (.bin .gt t67 (.c (.int .i64 (.ofNat 240))))])
 (.cond t68 (.seq (.reg [mI p4 (.mv (.c (.int .i64 (.ofNat 3))))])
 .ret) .skip))
 (.seq (.reg [mI p70 (.mv t1),
  mI p71 (.call p103 [t70]),
  mI p69 (.mv t71),
  mI p72 (.ex t69 0),
  mI p73 (.ex t69 1),
  mI p11 (.mv t72),
  mI p12 (.mv t73)])
 (.seq (.seq (.reg [mI p74 (.mv t12),
  mI p75 (.bin .lt t74 (.c (.int .i64 (.ofNat 0))))])
 (.cond t75 (.seq (.reg [mI p76 (.mv t0),
  mI p77 (.mv t1),
  mI p78 (.mv t11),
  mI p79 (.call p104 [t76, t77, t78]),
  mI p4 (.mv t79)])
 .ret) .skip))
 (.seq (.seq (.reg [mI p80 (.mv t0),
  mI p81 (.mv t1),
  mI p82 (.mv t12),
  mI p83 (.call p105 [t81, t82]),
  mI p84 (.mx t83 [(.c (.int .i64 (.ofNat 1)))]),
  mI p85 (.call p99 [t80, t84]),
  mI p86 (.not t85)])
 (.cond t86 (.seq (.reg [mI p4 (.mv (.c (.int .i64 (.ofNat 3))))])
 .ret) .skip))
 (.seq (.reg [mI p88 (.mv t1),
  mI p89 (.mv t12),
  mI p90 (.call p21 [t88, t89]),
  mI p87 (.mv t90),
  mI p91 (.ex t87 0),
  mI p92 (.ex t87 1),
  mI p13 (.mv t91),
  mI p6 (.mv t92)])
 (.seq (.seq (.reg [mI p93 (.mv t6),
  mI p94 (.bin .ne t93 (.c (.int .i64 (.ofNat 0))))])
 (.cond t94 (.seq (.reg [mI p4 (.mv (.c (.int .i64 (.ofNat 4))))])
 .ret) .skip))
 (.seq (.reg [mI p95 (.mv t0),
  mI p96 (.mv t13),
  mI p97 (.call p79 [t95, t96]),
  mI p5 (.mv t97)])
 (.seq (.seq (.reg [mI p98 (.mv t5),
  mI p99 (.bin .eq t98 (.c (.int .i64 (.ofNat 2))))])
 (.cond t99 (.seq (.reg [mI p101 (.mv t1),
  mI p102 (.mv t12),
  mI p103 (.mv t0),
  mI p104 (.nc t103),
  mI p105 (.fa 1 t104),
  mI p106 (.ld t105),
  mI p107 (.call p25 [t101, t102, t106]),
  mI p100 (.mv t107),
  mI p108 (.ex t100 0),
  mI p109 (.ex t100 1),
  mI p110 (.ex t100 2),
  mI p14 (.mv t108),
  mI p15 (.mv t109),
  mI p16 (.mv t110)])
 (.drw [.mk true [p0] [p112] true (mI p112 (.mv t0)),
  .mk true [p112] [p113] true (mI p113 (.nc t112)),
  .mk true [p113] [p114] true (mI p114 (.fa 1 t113)),
  .mk true [p114] [p115] true (mI p115 (.ld t114)),
  .mk true [p12] [p116] true (mI p116 (.mv t12)),
  .mk true [p14] [p117] true (mI p117 (.mv t14)),
  .mk true [p15] [p118] true (mI p118 (.mv t15)),
  .mk true [p117, p118] [p119] true (mI p119 (.call p35 [t117, t118])),
  .mk true [p119] [p111] true (mI p111 (.mv t119)),
  .mk true [p111] [p120] true (mI p120 (.ex t111 0)),
  .mk true [p111] [p121] true (mI p121 (.ex t111 1)),
  .mk true [p115, p116] [p122] true (mI p122 (.ia 1 t115 t116)),
  .mk true [p122, p120] [] false (.mk none none (.st 1 t122 t120))])) .skip))
 (.seq (.reg [mI p123 (.mv t5),
  mI p4 (.mv t123)])
 .ret)))))))))))))))
 [.t p4]
def ls79 : List Nat := [9]
def f91 : Fd := .mk [p0, p1]
 (.seq (.reg [mI p4 (.mv (.c (.bool false)))])
 (.seq (.reg [mI p5 (.mv t0),
  mI p6 (.mv t1),
  mI p7 (.neg t6),
  mI p8 (.bin .ge t5 t7),
  mI p9 (.mv t8),
  .mk (some p10) (some (p9, true)) (.mv t0),
  .mk (some p11) (some (p9, true)) (.mv t1),
  .mk (some p12) (some (p9, true)) (.bin .le t10 t11),
  mI p13 (.pick t9 t12 (.c (.bool false))),
  mI p4 (.mv t13)])
 .ret))
 [.t p4]
def ls91 : List Nat := []
def f98 : Fd := .mk [p0]
 (.seq (.reg [mI p2 (.mv (.c .nils)),
  mI p3 (.mv (.c (.int .i64 (.ofNat 0)))),
  mI p4 (.mv (.c (.int .i64 (.ofNat 0))))])
 (.seq (.reg [mI p5 (.mv (.c (.bool false)))])
 (.seq (.seq (.reg [mI p11 (.mv t0),
  mI p12 (.len t11),
  mI p13 (.mv (.c (.int .i64 (.ofNat 0))))])
 (.block 0 (.loop [p2, p5, p11, p12, p13] (.seq (.reg [mI p14 (.bin .lt t13 t12)])
 (.seq (.cond t14 .skip (.exit 0))
 (.seq (.block 1 (.seq (.reg [mI p15 (.ia 3 t11 t13),
  mI p16 (.lda 3 t15),
  .loc p7 [(.int .i64 (.ofNat 0)), .nils, (.bool false)],
  .mk none none (.st 3 t7 t16)])
 (.seq (.reg [mI p18 (.lda 3 t7),
  mI p19 (.call p111 [t18]),
  mI p17 (.mv t19),
  mI p20 (.ex t17 0),
  mI p21 (.ex t17 1),
  mI p22 (.ex t17 2),
  mI p8 (.al [(.int .i64 (.ofNat 0)), .nils, (.bool false)]),
  .mk none none (.st 3 t8 t20),
  mI p9 (.mv t21),
  mI p10 (.mv t22)])
 (.seq (.seq (.reg [mI p23 (.mv t10),
  mI p24 (.bin .ne t23 (.c (.int .i64 (.ofNat 0))))])
 (.cond t24 (.seq (.reg [mI p25 (.mv t10),
  mI p2 (.mv (.c .nils)),
  mI p3 (.mv (.c (.int .i64 (.ofNat 0)))),
  mI p4 (.mv t25)])
 .ret) .skip))
 (.seq (.reg [mI p26 (.mv t5),
  mI p27 (.mv t26),
  .mk (some p28) (some (p27, false)) (.mv t9),
  .mk (some p29) (some (p27, false)) (.bin .eq t28 (.c (.int .i64 (.ofNat 1)))),
  mI p30 (.pick t27 (.c (.bool true)) t29),
  mI p5 (.mv t30)])
 (.seq (.reg [mI p31 (.mv t9),
  mI p32 (.bin .eq t31 (.c (.int .i64 (.ofNat 0)))),
  mI p33 (.mv t32),
  .mk (some p34) (some (p33, true)) (.mv t2),
  .mk (some p35) (some (p33, true)) (.mfn p112 [t8]),
  .mk (some p36) (some (p33, true)) (.call p82 [t34, t35]),
  .mk (some p37) (some (p33, true)) (.not t36),
  mI p38 (.pick t33 t37 (.c (.bool false)))])
 (.cond t38 (.reg [mI p39 (.mv t2),
  mI p40 (.lda 3 t8),
  mI p41 (.bsl 1 3 [(.int .i64 (.ofNat 0)), .nils, (.bool false)] [(0, 3, t40)]),
  mI p42 (.app 3 40 t39 t41),
  mI p2 (.mv t42)]) .skip)))))))
 (.reg [mI p43 (.bin .add t13 (.c (.int .i64 (.ofNat 1)))),
  mI p13 (.mv t43)])))))))
 (.seq (.block 2 (.seq (.reg [mI p45 (.mv t5),
  mI p44 (.mv t45)])
 (.cond t44 (.seq (.reg [mI p2 (.mv (.c .nils)),
  mI p3 (.mv (.c (.int .i64 (.ofNat 1)))),
  mI p4 (.mv (.c (.int .i64 (.ofNat 0))))])
 .ret) (.seq (.reg [mI p47 (.mv t2),
  mI p48 (.len t47),
  mI p49 (.bin .eq t48 (.c (.int .i64 (.ofNat 0)))),
  mI p46 (.mv t49)])
 (.cond t46 (.seq (.reg [mI p2 (.mv (.c .nils)),
  mI p3 (.mv (.c (.int .i64 (.ofNat 2)))),
  mI p4 (.mv (.c (.int .i64 (.ofNat 0))))])
 .ret) .skip)))))
 (.seq (.reg [mI p50 (.mv t2),
  mI p2 (.mv t50),
  mI p3 (.mv (.c (.int .i64 (.ofNat 0)))),
  mI p4 (.mv (.c (.int .i64 (.ofNat 0))))])
 .ret)))))
 [.t p2, .t p3, .t p4]
def ls98 : List Nat := [7]
def f17 : Fd := .mk [p0]
 (.seq (.reg [mI p2 (.mv (.c (.int .i64 (.ofNat 0)))),
  mI p3 (.mv (.c (.int .i64 (.ofNat 0)))),
  mI p4 (.mv (.c (.int .i64 (.ofNat 0))))])
 (.seq (.seq (.reg [mI p9 (.mv t0),
  mI p10 (.call p50 [t9, (.c (.int .i64 (.ofNat 0)))]),
  mI p11 (.not t10)])
 (.cond t11 (.seq (.reg [mI p2 (.mv (.c (.int .i64 (.ofNat 0)))),
  mI p3 (.mv (.c (.int .i64 (.ofNat 0)))),
  mI p4 (.mv (.c (.int .i64 (.ofNat 1))))])
 .ret) .skip))
 (.seq (.seq (.reg [mI p12 (.mv t0),
  mI p13 (.len t12),
  mI p14 (.mv (.c (.int .i64 (.ofNat 0))))])
 (.block 0 (.loop [p12, p13, p14] (.seq (.reg [mI p15 (.bin .lt t14 t13)])
 (.seq (.cond t15 .skip (.exit 0))
 (.seq (.block 1 (.seq (.reg [mI p16 (.mv t14),
  mI p17 (.ia 3 t12 t14),
  mI p18 (.lda 3 t17),
  .loc p6 [(.int .i64 (.ofNat 0)), .nils, (.bool false)],
  mI p5 (.mv t16),
  .mk none none (.st 3 t6 t18)])
 (.seq (.reg [mI p19 (.fa 0 t6),
  mI p20 (.fa 1 t19),
  mI p21 (.ld t20),
  mI p22 (.len t21),
  mI p23 (.mv (.c (.int .i64 (.ofNat 0))))])
 (.block 2 (.loop [p5, p6, p12, p13, p14, p21, p22, p23] (.seq (.reg [mI p24 (.bin .lt t23 t22)])
 (.seq (.cond t24 .skip (.exit 2))
 (.seq (.block 3 (.seq (.reg [mI p25 (.ia 2 t21 t23),
  mI p26 (.lda 2 t25),
  .loc p8 [(.int .i64 (.ofNat 0)), (.int .i64 (.ofNat 0))],
  .mk none none (.st 2 t8 t26)])
 (.seq (.reg [mI p27 (.fa 2 t6),
  mI p28 (.ld t27),
  mI p29 (.mv t28),
  .mk (some p30) (some (p29, true)) (.fa 1 t8),
  .mk (some p31) (some (p29, true)) (.ld t30),
  .mk (some p32) (some (p29, true)) (.call p51 [t31]),
  mI p33 (.pick t29 t32 (.c (.bool false)))])
 (.cond t33 (.seq (.drw [.mk true [p5] [p34] true (mI p34 (.mv t5)),
  .mk true [p8] [p35] true (mI p35 (.fa 0 t8)),
  .mk true [p8, p35] [p36] true (mI p36 (.ld t35)),
  .mk true [p34] [p2] true (mI p2 (.mv t34)),
  .mk true [p36] [p3] true (mI p3 (.mv t36)),
  .mk true [] [p4] true (mI p4 (.mv (.c (.int .i64 (.ofNat 0)))))])
 .ret) .skip))))
 (.reg [mI p37 (.bin .add t23 (.c (.int .i64 (.ofNat 1)))),
  mI p23 (.mv t37)])))))))))
 (.reg [mI p38 (.bin .add t14 (.c (.int .i64 (.ofNat 1)))),
  mI p14 (.mv t38)])))))))
 (.seq (.reg [mI p2 (.mv (.c (.int .i64 (.ofNat 0)))),
  mI p3 (.mv (.c (.int .i64 (.ofNat 0)))),
  mI p4 (.mv (.c (.int .i64 (.ofNat 5))))])
 .ret))))
 [.t p2, .t p3, .t p4]
def ls17 : List Nat := [6, 8]
def f99 : Fd := .mk [p0, p1]
 (.seq (.reg [mI p4 (.mv (.c (.bool false)))])
 (.seq (.seq (.reg [mI p5 (.mv t1),
  mI p6 (.mv t0),
  mI p7 (.nc t6),
  mI p8 (.fa 0 t7),
  mI p9 (.ld t8),
  mI p10 (.bin .gt t5 t9)])
 (.cond t10 (.seq (.reg [mI p4 (.mv (.c (.bool false)))])
 .ret) .skip))
 (.seq (.reg [mI p11 (.mv t0),
  mI p12 (.nc t11),
  mI p13 (.fa 0 t12),
  mI p14 (.ld t13),
  mI p15 (.mv t1),
  mI p16 (.bin .sub t14 t15),
  mI p17 (.nc t11),
  mI p18 (.fa 0 t17),
  .mk none none (.st 1 t18 t16)])
 (.seq (.reg [mI p4 (.mv (.c (.bool true)))])
 .ret))))
 [.t p4]
def ls99 : List Nat := []
def f37 : Fd := .mk [p0, p1]
 (.seq (.reg [.locb p2 t0,
  .loc p4 [(.int .i64 (.ofNat 0)), .nils],
  mI p5 (.mv (.c (.int .i64 (.ofNat 0))))])
 (.seq (.reg [mI p9 (.fa 0 t2),
  mI p10 (.lda 2 t9),
  mI p11 (.mv t1),
  mI p12 (.call p64 [t10, t11]),
  mI p6 (.mv t12)])
 (.seq (.block 0 (.seq (.reg [mI p14 (.lda 3 t2),
  mI p15 (.bsl 1 3 [(.int .i64 (.ofNat 0)), .nils, (.bool false)] [(0, 3, t14)]),
  mI p16 (.mv t1),
  mI p17 (.call p50 [t15, t16]),
  mI p18 (.not t17),
  mI p13 (.mv t18)])
 (.cond t13 (.seq (.reg [mI p19 (.bld [(.int .i64 (.ofNat 0)), .nils] []),
  .mk none none (.st 2 t4 t19),
  mI p5 (.mv (.c (.int .i64 (.ofNat 1))))])
 .ret) (.seq (.reg [mI p21 (.fa 2 t2),
  mI p22 (.ld t21),
  mI p23 (.not t22),
  mI p24 (.mv t23),
  .mk (some p25) (some (p24, false)) (.mv t6),
  .mk (some p26) (some (p24, false)) (.call p51 [t25]),
  .mk (some p27) (some (p24, false)) (.not t26),
  mI p28 (.pick t24 (.c (.bool true)) t27),
  mI p20 (.mv t28)])
 (.cond t20 (.seq (.reg [mI p29 (.bld [(.int .i64 (.ofNat 0)), .nils] []),
  .mk none none (.st 2 t4 t29),
  mI p5 (.mv (.c (.int .i64 (.ofNat 11))))])
 .ret) .skip)))))
 (.seq (.reg [mI p31 (.fa 0 t2),
  mI p32 (.lda 2 t31),
  mI p33 (.mv t1),
  mI p34 (.bld [(.int .i64 (.ofNat 0)), .nils] []),
  mI p35 (.call p67 [t32, t33, t34]),
  mI p30 (.mv t35),
  mI p36 (.ex t30 0),
  mI p37 (.ex t30 1),
  .loc p7 [(.int .i64 (.ofNat 0)), .nils],
  .mk none none (.st 2 t7 t36),
  mI p8 (.mv t37)])
 (.seq (.reg [mI p38 (.lda 2 t7),
  mI p39 (.mv t6),
  mI p40 (.neg t39),
  mI p41 (.call p77 [t38, t40]),
  mI p42 (.ex t41 0),
  mI p43 (.ex t41 1),
  .mk none none (.st 2 t4 t42),
  mI p5 (.mv t43)])
 .ret)))))
 [.cell p4 (some 2), .t p5]
def ls37 : List Nat := [2, 4, 7]
def f101 : Fd := .prim 1
def f100 : Fd := .mk [p0, p1, p2, p3]
 (.seq (.reg [.locb p7 t3,
  mI p8 (.mv (.c (.int .i64 (.ofNat 0))))])
 (.seq (.reg [mI p13 (.mv t1),
  mI p14 (.mv t2),
  mI p15 (.lda 2 t7),
  mI p16 (.call p26 [t13, t14, t15]),
  mI p12 (.mv t16),
  mI p17 (.ex t12 0),
  mI p18 (.ex t12 1),
  mI p9 (.mv t17),
  mI p10 (.mv t18)])
 (.seq (.seq (.reg [mI p19 (.mv t10),
  mI p20 (.bin .ne t19 (.c (.int .i64 (.ofNat 0))))])
 (.cond t20 (.seq (.reg [mI p8 (.mv (.c (.int .i64 (.ofNat 4))))])
 .ret) .skip))
 (.seq (.reg [mI p21 (.mv t0),
  mI p22 (.mv t9),
  mI p23 (.call p79 [t21, t22]),
  mI p11 (.mv t23)])
 (.seq (.seq (.reg [mI p24 (.mv t11),
  mI p25 (.bin .eq t24 (.c (.int .i64 (.ofNat 2))))])
 (.cond t25 (.drw [.mk true [p0] [p27] true (mI p27 (.mv t0)),
  .mk true [p27] [p28] true (mI p28 (.nc t27)),
  .mk true [p28] [p29] true (mI p29 (.fa 1 t28)),
  .mk true [p29] [p30] true (mI p30 (.ld t29)),
  .mk true [p2] [p31] true (mI p31 (.mv t2)),
  .mk true [p7] [p32] true (mI p32 (.vla 2 t7)),
  .mk true [p0] [p33] true (mI p33 (.mv t0)),
  .mk true [p33] [p34] true (mI p34 (.nc t33)),
  .mk true [p34] [p35] true (mI p35 (.fa 1 t34)),
  .mk true [p35] [p36] true (mI p36 (.ld t35)),
  .mk true [p32, p36] [p37] true (mI p37 (.call p78 [t32, t36])),
  .mk true [p37] [p26] true (mI p26 (.mv t37)),
  .mk true [p26] [p38] true (mI p38 (.ex t26 0)),
  .mk true [p26] [p39] true (mI p39 (.ex t26 1)),
  .mk true [p30, p31] [p40] true (mI p40 (.ia 1 t30 t31)),
  .mk true [p40, p38] [] false (.mk none none (.st 1 t40 t38))]) .skip))
 (.seq (.reg [mI p41 (.mv t11),
  mI p8 (.mv t41)])
 .ret))))))
 [.t p8]
def ls100 : List Nat := [7]
def f102 : Fd := .mk [p0]
 (.seq (.reg [mI p2 (.mv (.c .nils))])
 (.seq (.reg [mI p3 (.mv (.c .nils))])
 (.seq (.seq (.reg [mI p8 (.mv t0),
  mI p9 (.len t8),
  mI p10 (.mv (.c (.int .i64 (.ofNat 0))))])
 (.block 0 (.loop [p3, p8, p9, p10] (.seq (.reg [mI p11 (.bin .lt t10 t9)])
 (.seq (.cond t11 .skip (.exit 0))
 (.seq (.block 1 (.seq (.reg [mI p12 (.ia 3 t8 t10),
  mI p13 (.lda 3 t12),
  .loc p5 [(.int .i64 (.ofNat 0)), .nils, (.bool false)],
  .mk none none (.st 3 t5 t13)])
 (.seq (.reg [mI p14 (.mv t3),
  mI p15 (.fa 0 t5),
  mI p16 (.lda 2 t15),
  mI p17 (.bld [(.int .i64 (.ofNat 0)), .nils, (.bool false)] [(0, 2, t16)]),
  mI p18 (.bsl 1 3 [(.int .i64 (.ofNat 0)), .nils, (.bool false)] [(0, 3, t17)]),
  mI p19 (.app 3 40 t14 t18),
  mI p3 (.mv t19)])
 (.seq (.reg [mI p20 (.fa 2 t5),
  mI p21 (.ld t20)])
 (.cond t21 (.seq (.reg [mI p23 (.fa 0 t5),
  mI p24 (.lda 2 t23),
  mI p25 (.call p77 [t24, (.c (.int .i64 (.negSucc 0)))]),
  mI p22 (.mv t25),
  mI p26 (.ex t22 0),
  mI p27 (.ex t22 1),
  .loc p6 [(.int .i64 (.ofNat 0)), .nils],
  .mk none none (.st 2 t6 t26),
  mI p7 (.mv t27)])
 (.reg [mI p28 (.mv t3),
  mI p29 (.lda 2 t6),
  mI p30 (.bld [(.int .i64 (.ofNat 0)), .nils, (.bool false)] [(0, 2, t29)]),
  mI p31 (.bsl 1 3 [(.int .i64 (.ofNat 0)), .nils, (.bool false)] [(0, 3, t30)]),
  mI p32 (.app 3 40 t28 t31),
  mI p3 (.mv t32)])) .skip)))))
 (.reg [mI p33 (.bin .add t10 (.c (.int .i64 (.ofNat 1)))),
  mI p10 (.mv t33)])))))))
 (.seq (.reg [mI p34 (.mv t3),
  mI p2 (.mv t34)])
 .ret))))
 [.t p2]
def ls102 : List Nat := [5, 6]
def f103 : Fd := .mk [p0]
 (.seq (.reg [mI p1 (.bx t0),
  mI p2 (.mv (.c (.int .i64 (.ofNat 0)))),
  mI p3 (.mv (.c (.int .i64 (.ofNat 0))))])
 (.seq (.reg [mI p4 (.mv (.c .nils))])
 (.seq (.seq (.reg [mI p10 (.ld t1),
  mI p11 (.len t10),
  mI p12 (.mv (.c (.int .i64 (.ofNat 0))))])
 (.block 0 (.loop [p1, p4, p10, p11, p12] (.seq (.reg [mI p13 (.bin .lt t12 t11)])
 (.seq (.cond t13 .skip (.exit 0))
 (.seq (.block 1 (.seq (.reg [mI p14 (.ia 3 t10 t12),
  mI p15 (.lda 3 t14),
  .loc p6 [(.int .i64 (.ofNat 0)), .nils, (.bool false)],
  .mk none none (.st 3 t6 t15)])
 (.seq (.reg [mI p16 (.fa 0 t6),
  mI p17 (.fa 1 t16),
  mI p18 (.ld t17),
  mI p19 (.len t18),
  mI p20 (.mv (.c (.int .i64 (.ofNat 0))))])
 (.block 2 (.loop [p1, p4, p10, p11, p12, p18, p19, p20] (.seq (.reg [mI p21 (.bin .lt t20 t19)])
 (.seq (.cond t21 .skip (.exit 2))
 (.seq (.block 3 (.seq (.reg [mI p22 (.ia 2 t18 t20),
  mI p23 (.lda 2 t22),
  .loc p8 [(.int .i64 (.ofNat 0)), (.int .i64 (.ofNat 0))],
  .mk none none (.st 2 t8 t23)])
 (.reg [mI p24 (.mv t4),
  mI p25 (.fa 0 t8),
  mI p26 (.ld t25),
  mI p27 (.bsl 1 1 [(.int .i64 (.ofNat 0))] [(0, 1, t26)]),
  mI p28 (.app 1 8 t24 t27),
  mI p4 (.mv t28)])))
 (.reg [mI p29 (.bin .add t20 (.c (.int .i64 (.ofNat 1)))),
  mI p20 (.mv t29)])))))))))
 (.reg [mI p30 (.bin .add t12 (.c (.int .i64 (.ofNat 1)))),
  mI p12 (.mv t30)])))))))
 (.seq (.reg [mI p31 (.mv t4),
  mI p32 (.call p114 [t31])])
 (.seq (.reg [mI p33 (.mv t4),
  mI p34 (.call p115 [t33]),
  mI p4 (.mv t34)])
 (.seq (.reg [mI p35 (.mv t4),
  mI p36 (.mfn p116 [t1]),
  mI p37 (.call p90 [t35, t36]),
  mI p9 (.mv t37)])
 (.seq (.seq (.reg [mI p38 (.mv t9),
  mI p39 (.bin .lt t38 (.c (.int .i64 (.ofNat 0))))])
 (.cond t39 (.seq (.reg [mI p40 (.mv t4),
  mI p41 (.ia 1 t40 (.c (.int .i64 (.ofNat 0)))),
  mI p42 (.ld t41),
  mI p2 (.mv t42),
  mI p3 (.mv (.c (.int .i64 (.negSucc 0))))])
 .ret) .skip))
 (.seq (.drw [.mk true [p4] [p43] true (mI p43 (.mv t4)),
  .mk true [p43] [p44] true (mI p44 (.ia 1 t43 (.c (.int .i64 (.ofNat 0))))),
  .mk true [p44] [p45] true (mI p45 (.ld t44)),
  .mk true [p4] [p46] true (mI p46 (.mv t4)),
  .mk true [p9] [p47] true (mI p47 (.mv t9)),
  .mk true [p46, p47] [p48] true (mI p48 (.ia 1 t46 t47)),
  .mk true [p48] [p49] true (mI p49 (.ld t48)),
  .mk true [p45] [p2] true (mI p2 (.mv t45)),
  .mk true [p49] [p3] true (mI p3 (.mv t49))])
 .ret))))))))
 [.t p2, .t p3]
def ls103 : List Nat := [6, 8]
def f104 : Fd := .mk [p0, p1, p2]
 (.seq (.reg [mI p6 (.mv (.c (.int .i64 (.ofNat 0))))])
 (.seq (.reg [mI p7 (.mv (.c .nils))])
 (.seq (.seq (.reg [mI p17 (.mv t1),
  mI p18 (.len t17),
  mI p19 (.mv (.c (.int .i64 (.ofNat 0))))])
 (.block 0 (.loop [p0, p1, p2, p7, p17, p18, p19] (.seq (.reg [mI p20 (.bin .lt t19 t18)])
 (.seq (.cond t20 .skip (.exit 0))
 (.seq (.block 1 (.seq (.reg [mI p21 (.ia 3 t17 t19),
  mI p22 (.lda 3 t21),
  .loc p9 [(.int .i64 (.ofNat 0)), .nils, (.bool false)],
  .mk none none (.st 3 t9 t22)])
 (.seq (.reg [mI p23 (.fa 0 t9),
  mI p24 (.fa 1 t23),
  mI p25 (.ld t24),
  mI p26 (.len t25),
  mI p27 (.bin .eq t26 (.c (.int .i64 (.ofNat 1)))),
  mI p28 (.mv t27),
  .mk (some p29) (some (p28, true)) (.fa 0 t9),
  .mk (some p30) (some (p28, true)) (.fa 1 t29),
  .mk (some p31) (some (p28, true)) (.ld t30),
  .mk (some p32) (some (p28, true)) (.ia 2 t31 (.c (.int .i64 (.ofNat 0)))),
  .mk (some p33) (some (p28, true)) (.fa 0 t32),
  .mk (some p34) (some (p28, true)) (.ld t33),
  .mk (some p35) (some (p28, true)) (.mv t2),
  .mk (some p36) (some (p28, true)) (.bin .eq t34 t35),
  mI p37 (.pick t28 t36 (.c (.bool false)))])
 (.cond t37 (.reg [mI p38 (.mv t7),
  mI p39 (.lda 3 t9),
  mI p40 (.bsl 1 3 [(.int .i64 (.ofNat 0)), .nils, (.bool false)] [(0, 3, t39)]),
  mI p41 (.app 3 40 t38 t40),
  mI p7 (.mv t41)]) .skip))))
 (.reg [mI p42 (.bin .add t19 (.c (.int .i64 (.ofNat 1)))),
  mI p19 (.mv t42)])))))))
 (.seq (.reg [mI p44 (.mv t7),
  mI p45 (.mv t2),
  mI p46 (.call p25 [t44, t45, (.c .nils)]),
  mI p43 (.mv t46),
  mI p47 (.ex t43 0),
  mI p48 (.ex t43 1),
  mI p49 (.ex t43 2),
  mI p10 (.mv t47),
  mI p11 (.mv t48),
  mI p12 (.mv t49)])
 (.seq (.block 2 (.seq (.reg [mI p51 (.mv t10),
  mI p52 (.mv t11),
  mI p53 (.bin .gt t51 t52),
  mI p50 (.mv t53)])
 (.cond t50 (.seq (.reg [mI p6 (.mv (.c (.int .i64 (.ofNat 1))))])
 .ret) (.seq (.reg [mI p55 (.mv t0),
  mI p56 (.call p99 [t55, (.c (.int .i64 (.ofNat 1)))]),
  mI p57 (.not t56),
  mI p54 (.mv t57)])
 (.cond t54 (.seq (.reg [mI p6 (.mv (.c (.int .i64 (.ofNat 3))))])
 .ret) (.seq (.reg [mI p59 (.mv t10),
  mI p60 (.mv t11),
  mI p61 (.bin .eq t59 t60),
  mI p58 (.mv t61)])
 (.cond t58 (.seq (.reg [mI p62 (.mv t0),
  mI p63 (.mv t1),
  mI p64 (.mv t2),
  mI p65 (.mv t10),
  mI p66 (.bld [(.int .i64 (.ofNat 0)), .nils] [(0, 1, t65)]),
  mI p67 (.call p100 [t62, t63, t64, t66]),
  mI p6 (.mv t67)])
 .ret) .skip)))))))
 (.seq (.reg [mI p68 (.mv t10),
  mI p69 (.mv t11),
  mI p70 (.bin .add t68 t69),
  mI p71 (.shr t70 (.c (.int .u64 (.ofNat 1)))),
  mI p13 (.mv t71)])
 (.seq (.reg [mI p72 (.mv t13),
  mI p73 (.neg t72),
  mI p74 (.mv t2),
  mI p75 (.bld [(.int .i64 (.ofNat 0)), (.int .i64 (.ofNat 0))] [(0, 1, t74), (1, 1, (.c (.int .i64 (.ofNat 1))))]),
  mI p76 (.bsl 1 2 [(.int .i64 (.ofNat 0)), (.int .i64 (.ofNat 0))] [(0, 2, t75)]),
  mI p77 (.bld [(.int .i64 (.ofNat 0)), .nils] [(0, 1, t73), (1, 1, t76)]),
  mI p78 (.bld [(.int .i64 (.ofNat 0)), .nils, (.bool false)] [(0, 2, t77)]),
  .loc p14 [(.int .i64 (.ofNat 0)), .nils, (.bool false)],
  .mk none none (.st 3 t14 t78)])
 (.seq (.reg [mI p79 (.mv t13),
  mI p80 (.bin .add t79 (.c (.int .i64 (.ofNat 1)))),
  mI p81 (.mv t2),
  mI p82 (.bld [(.int .i64 (.ofNat 0)), (.int .i64 (.ofNat 0))] [(0, 1, t81), (1, 1, (.c (.int .i64 (.negSucc 0))))]),
  mI p83 (.bsl 1 2 [(.int .i64 (.ofNat 0)), (.int .i64 (.ofNat 0))] [(0, 2, t82)]),
  mI p84 (.bld [(.int .i64 (.ofNat 0)), .nils] [(0, 1, t80), (1, 1, t83)]),
  mI p85 (.bld [(.int .i64 (.ofNat 0)), .nils, (.bool false)] [(0, 2, t84)]),
  .loc p15 [(.int .i64 (.ofNat 0)), .nils, (.bool false)],
  .mk none none (.st 3 t15 t85)])
 (.seq (.drw [.mk true [p0] [p86] true (mI p86 (.mv t0)),
  .mk true [p1] [p87] true (mI p87 (.mv t1)),
  .mk true [p87] [p88] true (mI p88 (.call p80 [t87])),
  .mk true [p14] [p89] true (mI p89 (.vla 3 t14)),
  .mk true [p89] [p90] true (mI p90 (.bsl 1 3 [(.int .i64 (.ofNat 0)), .nils, (.bool false)] [(0, 3, t89)])),
  .mk true [p88, p90] [p91] false (mI p91 (.app 3 40 t88 t90)),
  .mk true [p86, p91] [p92] false (mI p92 (.call p79 [t86, t91])),
  .mk true [p92] [p16] true (mI p16 (.mv t92))])
 (.seq (.seq (.reg [mI p93 (.mv t16),
  mI p94 (.bin .eq t93 (.c (.int .i64 (.ofNat 1))))])
 (.cond t94 (.drw [.mk true [p0] [p95] true (mI p95 (.mv t0)),
  .mk true [p1] [p96] true (mI p96 (.mv t1)),
  .mk true [p96] [p97] true (mI p97 (.call p80 [t96])),
  .mk true [p15] [p98] true (mI p98 (.vla 3 t15)),
  .mk true [p98] [p99] true (mI p99 (.bsl 1 3 [(.int .i64 (.ofNat 0)), .nils, (.bool false)] [(0, 3, t98)])),
  .mk true [p97, p99] [p100] false (mI p100 (.app 3 40 t97 t99)),
  .mk true [p95, p100] [p101] false (mI p101 (.call p79 [t95, t100])),
  .mk true [p101] [p16] true (mI p16 (.mv t101))]) .skip))
 (.seq (.reg [mI p102 (.mv t16),
  mI p6 (.mv t102)])
 .ret)))))))))))
 [.t p6]
def ls104 : List Nat := [9, 14, 15]
def f105 : Fd := .mk [p0, p1]
 (.seq (.reg [mI p4 (.mv (.c (.int .i64 (.ofNat 0))))])
 (.seq (.reg [mI p9 (.mv t0),
  mI p10 (.mv t1),
  mI p11 (.call p53 [t9, t10]),
  mI p8 (.mv t11),
  mI p12 (.ex t8 0),
  mI p13 (.ex t8 1),
  mI p14 (.ex t8 2),
  mI p5 (.mv t12),
  mI p6 (.mv t13),
  mI p7 (.mv t14)])
 (.seq (.reg [mI p15 (.mv t5),
  mI p16 (.len t15),
  mI p17 (.mv t6),
  mI p18 (.len t17),
  mI p19 (.bin .mul t16 t18),
  mI p4 (.mv t19)])
 .ret)))
 [.t p4]
def ls105 : List Nat := []
def f21 : Fd := .mk [p0, p1]
 (.seq (.reg [mI p4 (.mv (.c .nils)),
  mI p5 (.mv (.c (.int .i64 (.ofNat 0))))])
 (.seq (.reg [mI p19 (.mv t0),
  mI p20 (.mv t1),
  mI p21 (.call p52 [t19, t20]),
  mI p6 (.mv t21)])
 (.seq (.seq (.reg [mI p22 (.mv t6),
  mI p23 (.bin .ne t22 (.c (.int .i64 (.ofNat 0))))])
 (.cond t23 (.seq (.reg [mI p24 (.mv t6),
  mI p4 (.mv (.c .nils)),
  mI p5 (.mv t24)])
 .ret) .skip))
 (.seq (.reg [mI p26 (.mv t0),
  mI p27 (.mv t1),
  mI p28 (.call p53 [t26, t27]),
  mI p25 (.mv t28),
  mI p29 (.ex t25 0),
  mI p30 (.ex t25 1),
  mI p31 (.ex t25 2),
  mI p7 (.mv t29),
  mI p8 (.mv t30),
  mI p9 (.mv t31)])
 (.seq (.reg [mI p10 (.mv (.c .nils))])
 (.seq (.seq (.reg [mI p32 (.mv t9),
  mI p33 (.len t32),
  mI p34 (.mv (.c (.int .i64 (.ofNat 0))))])
 (.block 0 (.loop [p1, p7, p8, p10, p32, p33, p34] (.seq (.reg [mI p35 (.bin .lt t34 t33)])
 (.seq (.cond t35 .skip (.exit 0))
 (.seq (.block 1 (.seq (.reg [mI p36 (.ia 3 t32 t34),
  mI p37 (.lda 3 t36),
  .loc p12 [(.int .i64 (.ofNat 0)), .nils, (.bool false)],
  .mk none none (.st 3 t12 t37)])
 (.reg [mI p38 (.mv t10),
  mI p39 (.lda 3 t12),
  mI p40 (.call p54 [t39]),
  mI p41 (.bsl 1 3 [(.int .i64 (.ofNat 0)), .nils, (.bool false)] [(0, 3, t40)]),
  mI p42 (.app 3 40 t38 t41),
  mI p10 (.mv t42)])))
 (.reg [mI p43 (.bin .add t34 (.c (.int .i64 (.ofNat 1)))),
  mI p34 (.mv t43)])))))))
 (.seq (.seq (.reg [mI p44 (.mv t7),
  mI p45 (.len t44),
  mI p46 (.mv (.c (.int .i64 (.ofNat 0))))])
 (.block 2 (.loop [p1, p8, p10, p44, p45, p46] (.seq (.reg [mI p47 (.bin .lt t46 t45)])
 (.seq (.cond t47 .skip (.exit 2))
 (.seq (.block 3 (.seq (.reg [mI p48 (.ia 3 t44 t46),
  mI p49 (.lda 3 t48),
  .loc p14 [(.int .i64 (.ofNat 0)), .nils, (.bool false)],
  .mk none none (.st 3 t14 t49)])
 (.seq (.reg [mI p50 (.mv t8),
  mI p51 (.len t50),
  mI p52 (.mv (.c (.int .i64 (.ofNat 0))))])
 (.block 4 (.loop [p1, p8, p10, p14, p44, p45, p46, p50, p51, p52] (.seq (.reg [mI p53 (.bin .lt t52 t51)])
 (.seq (.cond t53 .skip (.exit 4))
 (.seq (.block 5 (.seq (.reg [mI p54 (.ia 3 t50 t52),
  mI p55 (.lda 3 t54),
  .loc p16 [(.int .i64 (.ofNat 0)), .nils, (.bool false)],
  .mk none none (.st 3 t16 t55)])
 (.seq (.reg [mI p57 (.lda 3 t14),
  mI p58 (.lda 3 t16),
  mI p59 (.mv t1),
  mI p60 (.call p55 [t57, t58, t59]),
  mI p56 (.mv t60),
  mI p61 (.ex t56 0),
  mI p62 (.ex t56 1),
  .loc p17 [(.int .i64 (.ofNat 0)), .nils, (.bool false)],
  .mk none none (.st 3 t17 t61),
  mI p18 (.mv t62)])
 (.seq (.seq (.reg [mI p63 (.mv t18),
  mI p64 (.bin .ne t63 (.c (.int .i64 (.ofNat 0))))])
 (.cond t64 (.seq (.reg [mI p65 (.mv t18),
  mI p4 (.mv (.c .nils)),
  mI p5 (.mv t65)])
 .ret) .skip))
 (.reg [mI p66 (.mv t10),
  mI p67 (.lda 3 t17),
  mI p68 (.bsl 1 3 [(.int .i64 (.ofNat 0)), .nils, (.bool false)] [(0, 3, t67)]),
  mI p69 (.app 3 40 t66 t68),
  mI p10 (.mv t69)])))))
 (.reg [mI p70 (.bin .add t52 (.c (.int .i64 (.ofNat 1)))),
  mI p52 (.mv t70)])))))))))
 (.reg [mI p71 (.bin .add t46 (.c (.int .i64 (.ofNat 1)))),
  mI p46 (.mv t71)])))))))
 (.seq (.reg [mI p72 (.mv t10),
  mI p4 (.mv t72),
  mI p5 (.mv (.c (.int .i64 (.ofNat 0))))])
 .ret))))))))
 [.t p4, .t p5]
def ls21 : List Nat := [12, 14, 16, 17]
def f25 : Fd := .mk [p0, p1, p2]
 (.seq (.reg [mI p4 (.bx t1),
  mI p5 (.bx t2),
  mI p6 (.mv (.c (.int .i64 (.ofNat 0)))),
  mI p7 (.mv (.c (.int .i64 (.ofNat 0)))),
  mI p8 (.mv (.c (.int .i64 (.ofNat 0))))])
 (.seq (.reg [mI p20 (.mv t0),
  mI p21 (.ld t4),
  mI p22 (.call p52 [t20, t21]),
  mI p8 (.mv t22)])
 (.seq (.seq (.reg [mI p23 (.mv t8),
  mI p24 (.bin .ne t23 (.c (.int .i64 (.ofNat 0))))])
 (.cond t24 (.seq (.reg [mI p25 (.mv t8),
  mI p6 (.mv (.c (.int .i64 (.ofNat 0)))),
  mI p7 (.mv (.c (.int .i64 (.ofNat 0)))),
  mI p8 (.mv t25)])
 .ret) .skip))
 (.seq (.reg [mI p27 (.mv t0),
  mI p28 (.ld t4),
  mI p29 (.call p53 [t27, t28]),
  mI p26 (.mv t29),
  mI p30 (.ex t26 0),
  mI p31 (.ex t26 1),
  mI p32 (.ex t26 2),
  mI p9 (.mv t30),
  mI p10 (.mv t31),
  mI p11 (.mv t32)])
 (.seq (.reg [mI p6 (.mv (.c (.int .i64 (.negSucc 2147483647)))),
  mI p7 (.mv (.c (.int .i64 (.ofNat 2147483647))))])
 (.seq (.seq (.reg [mI p33 (.mv t9),
  mI p34 (.mv t10),
  mI p35 (.bsl 2 1 [.nils, .nils] [(0, 1, t33), (1, 1, t34)]),
  mI p36 (.call p59 [t35]),
  mI p37 (.len t36),
  mI p38 (.mv (.c (.int .i64 (.ofNat 0))))])
 (.block 0 (.loop [p4, p5, p6, p7, p9, p10, p36, p37, p38] (.seq (.reg [mI p39 (.bin .lt t38 t37)])
 (.seq (.cond t39 .skip (.exit 0))
 (.seq (.block 1 (.seq (.reg [mI p40 (.ia 3 t36 t38),
  mI p41 (.lda 3 t40),
  .loc p13 [(.int .i64 (.ofNat 0)), .nils, (.bool false)],
  .mk none none (.st 3 t13 t41)])
 (.seq (.reg [mI p42 (.fa 0 t13),
  mI p43 (.fa 1 t42),
  mI p44 (.ld t43),
  mI p45 (.mfn p61 [t4, t5]),
  mI p46 (.call p60 [t44, t45])])
 (.cond t46 (.seq (.reg [mI p6 (.mv (.c (.int .i64 (.ofNat 0)))),
  mI p7 (.mv (.c (.int .i64 (.ofNat 0)))),
  mI p8 (.mv (.c (.int .i64 (.ofNat 5))))])
 .ret) .skip))))
 (.reg [mI p47 (.bin .add t38 (.c (.int .i64 (.ofNat 1)))),
  mI p38 (.mv t47)])))))))
 (.seq (.seq (.reg [mI p48 (.ld t5),
  mI p49 (.call p62 [t48, (.c (.fn p63 []))])])
 (.cond t49 (.seq (.reg [mI p6 (.mv (.c (.int .i64 (.ofNat 0)))),
  mI p7 (.mv (.c (.int .i64 (.ofNat 0)))),
  mI p8 (.mv (.c (.int .i64 (.ofNat 1))))])
 .ret) .skip))
 (.seq (.seq (.reg [mI p50 (.mv t9),
  mI p51 (.mv t10),
  mI p52 (.bsl 2 1 [.nils, .nils] [(0, 1, t50), (1, 1, t51)]),
  mI p53 (.call p59 [t52]),
  mI p54 (.len t53),
  mI p55 (.mv (.c (.int .i64 (.ofNat 0))))])
 (.block 2 (.loop [p4, p5, p6, p7, p53, p54, p55] (.seq (.reg [mI p56 (.bin .lt t55 t54)])
 (.seq (.cond t56 .skip (.exit 2))
 (.seq (.block 3 (.seq (.reg [mI p57 (.ia 3 t53 t55),
  mI p58 (.lda 3 t57),
  .loc p15 [(.int .i64 (.ofNat 0)), .nils, (.bool false)],
  .mk none none (.st 3 t15 t58)])
 (.seq (.reg [mI p59 (.fa 0 t15),
  mI p60 (.fa 0 t59),
  mI p61 (.ld t60),
  mI p16 (.mv t61)])
 (.seq (.seq (.reg [mI p62 (.fa 0 t15),
  mI p63 (.fa 1 t62),
  mI p64 (.ld t63),
  mI p65 (.len t64),
  mI p66 (.mv (.c (.int .i64 (.ofNat 0))))])
 (.block 4 (.loop [p4, p5, p6, p7, p15, p16, p53, p54, p55, p64, p65, p66] (.seq (.reg [mI p67 (.bin .lt t66 t65)])
 (.seq (.cond t67 .skip (.exit 4))
 (.seq (.block 5 (.seq (.reg [mI p68 (.ia 2 t64 t66),
  mI p69 (.lda 2 t68),
  .loc p18 [(.int .i64 (.ofNat 0)), (.int .i64 (.ofNat 0))],
  .mk none none (.st 2 t18 t69)])
 (.seq (.reg [mI p70 (.fa 0 t18),
  mI p71 (.ld t70),
  mI p72 (.ld t4),
  mI p73 (.bin .ne t71 t72)])
 (.cond t73 (.drw [.mk true [p16] [p74] true (mI p74 (.mv t16)),
  .mk true [p18] [p75] true (mI p75 (.fa 1 t18)),
  .mk true [p18, p75] [p76] true (mI p76 (.ld t75)),
  .mk true [p5] [p77] true (mI p77 (.ld t5)),
  .mk true [p18] [p78] true (mI p78 (.fa 0 t18)),
  .mk true [p18, p78] [p79] true (mI p79 (.ld t78)),
  .mk true [p77, p79] [p80] true (mI p80 (.ia 1 t77 t79)),
  .mk true [p80] [p81] true (mI p81 (.ld t80)),
  .mk true [p76, p81] [p82] true (mI p82 (.bin .mul t76 t81)),
  .mk true [p74, p82] [p83] true (mI p83 (.bin .add t74 t82)),
  .mk true [p83] [p16] true (mI p16 (.mv t83))]) .skip))))
 (.reg [mI p84 (.bin .add t66 (.c (.int .i64 (.ofNat 1)))),
  mI p66 (.mv t84)])))))))
 (.seq (.reg [mI p85 (.fa 0 t15),
  mI p86 (.lda 2 t85),
  mI p87 (.ld t4),
  mI p88 (.call p64 [t86, t87]),
  mI p19 (.mv t88)])
 (.seq (.reg [mI p89 (.mv t19),
  mI p90 (.bin .lt t89 (.c (.int .i64 (.ofNat 0))))])
 (.cond t90 (.reg [mI p91 (.mv t6),
  mI p92 (.mv t16),
  mI p93 (.neg t92),
  mI p94 (.mv t19),
  mI p95 (.neg t94),
  mI p96 (.call p65 [t93, t95]),
  mI p97 (.neg t96),
  mI p98 (.mx t91 [t97]),
  mI p6 (.mv t98)]) (.reg [mI p99 (.mv t7),
  mI p100 (.mv t16),
  mI p101 (.neg t100),
  mI p102 (.mv t19),
  mI p103 (.call p65 [t101, t102]),
  mI p104 (.mn t99 [t103]),
  mI p7 (.mv t104)]))))))))
 (.reg [mI p105 (.bin .add t55 (.c (.int .i64 (.ofNat 1)))),
  mI p55 (.mv t105)])))))))
 (.seq (.reg [mI p106 (.mv t6),
  mI p107 (.mn t106 [(.c (.int .i64 (.ofNat 2147483647)))]),
  mI p108 (.mv t7),
  mI p109 (.mx t108 [(.c (.int .i64 (.negSucc 2147483647)))]),
  mI p6 (.mv t107),
  mI p7 (.mv t109),
  mI p8 (.mv (.c (.int .i64 (.ofNat 0))))])
 .ret)))))))))
 [.t p6, .t p7, .t p8]
def ls25 : List Nat := [13, 15, 18]
def f35 : Fd := .mk [p0, p1]
 (.seq (.reg [mI p4 (.mv (.c (.int .i64 (.ofNat 0)))),
  mI p5 (.mv (.c (.bool false)))])
 (.seq (.seq (.reg [mI p6 (.mv t0),
  mI p7 (.mv t1),
  mI p8 (.bin .gt t6 t7)])
 (.cond t8 (.seq (.reg [mI p4 (.mv (.c (.int .i64 (.ofNat 0)))),
  mI p5 (.mv (.c (.bool false)))])
 .ret) .skip))
 (.seq (.reg [mI p9 (.mv t0),
  mI p10 (.mx (.c (.int .i64 (.ofNat 0))) [t9]),
  mI p11 (.mv t1),
  mI p12 (.mn t10 [t11]),
  mI p4 (.mv t12),
  mI p5 (.mv (.c (.bool true)))])
 .ret)))
 [.t p4, .t p5]
def ls35 : List Nat := []
def f111 : Fd := .mk [p0]
 (.seq (.reg [.locb p1 t0,
  .loc p2 [(.int .i64 (.ofNat 0)), .nils, (.bool false)],
  mI p3 (.mv (.c (.int .i64 (.ofNat 0)))),
  mI p4 (.mv (.c (.int .i64 (.ofNat 0))))])
 (.seq (.reg [mI p11 (.fa 0 t1),
  mI p12 (.lda 2 t11),
  mI p13 (.call p66 [t12]),
  mI p4 (.mv t13)])
 (.seq (.block 0 (.seq (.reg [mI p15 (.mv t4),
  mI p16 (.bin .ne t15 (.c (.int .i64 (.ofNat 0)))),
  mI p14 (.mv t16)])
 (.cond t14 (.seq (.reg [mI p17 (.bld [(.int .i64 (.ofNat 0)), .nils, (.bool false)] []),
  mI p18 (.mv t4),
  .mk none none (.st 3 t2 t17),
  mI p3 (.mv (.c (.int .i64 (.ofNat 0)))),
  mI p4 (.mv t18)])
 .ret) (.seq (.reg [mI p20 (.fa 0 t1),
  mI p21 (.fa 1 t20),
  mI p22 (.ld t21),
  mI p23 (.len t22),
  mI p24 (.bin .eq t23 (.c (.int .i64 (.ofNat 0)))),
  mI p19 (.mv t24)])
 (.cond t19 (.seq (.reg [mI p25 (.bld [(.int .i64 (.ofNat 0)), .nils, (.bool false)] []),
  mI p26 (.lda 3 t1),
  mI p27 (.call p117 [t26]),
  .mk none none (.st 3 t2 t25),
  mI p3 (.mv t27),
  mI p4 (.mv (.c (.int .i64 (.ofNat 0))))])
 .ret) .skip)))))
 (.seq (.reg [mI p5 (.mv (.c (.int .i64 (.ofNat 0))))])
 (.seq (.seq (.reg [mI p28 (.fa 0 t1),
  mI p29 (.fa 1 t28),
  mI p30 (.ld t29),
  mI p31 (.len t30),
  mI p32 (.mv (.c (.int .i64 (.ofNat 0))))])
 (.block 1 (.loop [p1, p2, p5, p30, p31, p32] (.seq (.reg [mI p33 (.bin .lt t32 t31)])
 (.seq (.cond t33 .skip (.exit 1))
 (.seq (.block 2 (.seq (.reg [mI p34 (.ia 2 t30 t32),
  mI p35 (.lda 2 t34),
  .loc p7 [(.int .i64 (.ofNat 0)), (.int .i64 (.ofNat 0))],
  .mk none none (.st 2 t7 t35)])
 (.reg [mI p36 (.mv t5),
  mI p37 (.fa 1 t7),
  mI p38 (.ld t37),
  mI p39 (.call p118 [t36, t38]),
  mI p5 (.mv t39)])))
 (.reg [mI p40 (.bin .add t32 (.c (.int .i64 (.ofNat 1)))),
  mI p32 (.mv t40)])))))))
 (.seq (.seq (.reg [mI p41 (.fa 2 t1),
  mI p42 (.ld t41),
  mI p43 (.mv t42),
  .mk (some p44) (some (p43, true)) (.fa 0 t1),
  .mk (some p45) (some (p43, true)) (.fa 0 t44),
  .mk (some p46) (some (p43, true)) (.ld t45),
  .mk (some p47) (some (p43, true)) (.mv t5),
  .mk (some p48) (some (p43, true)) (.bin .rem t46 t47),
  .mk (some p49) (some (p43, true)) (.bin .ne t48 (.c (.int .i64 (.ofNat 0)))),
  mI p50 (.pick t43 t49 (.c (.bool false)))])
 (.cond t50 (.seq (.reg [mI p51 (.bld [(.int .i64 (.ofNat 0)), .nils, (.bool false)] []),
  .mk none none (.st 3 t2 t51),
  mI p3 (.mv (.c (.int .i64 (.ofNat 1)))),
  mI p4 (.mv (.c (.int .i64 (.ofNat 0))))])
 .ret) .skip))
 (.seq (.reg [mI p8 (.mv (.c (.int .i64 (.ofNat 1))))])
 (.seq (.seq (.reg [mI p52 (.fa 2 t1),
  mI p53 (.ld t52),
  mI p54 (.mv t53),
  .mk (some p55) (some (p54, true)) (.fa 0 t1),
  .mk (some p56) (some (p54, true)) (.fa 1 t55),
  .mk (some p57) (some (p54, true)) (.ld t56),
  .mk (some p58) (some (p54, true)) (.ia 2 t57 (.c (.int .i64 (.ofNat 0)))),
  .mk (some p59) (some (p54, true)) (.fa 1 t58),
  .mk (some p60) (some (p54, true)) (.ld t59),
  .mk (some p61) (some (p54, true)) (.bin .lt t60 (.c (.int .i64 (.ofNat 0)))),
  mI p62 (.pick t54 t61 (.c (.bool false)))])
 (.cond t62 (.reg [mI p8 (.mv (.c (.int .i64 (.negSucc 0))))]) .skip))
 (.seq (.drw [.mk true [p8] [p63] true (mI p63 (.mv t8)),
  .mk true [p1] [p64] true (mI p64 (.fa 0 t1)),
  .mk true [p1, p64] [p65] true (mI p65 (.fa 0 t64)),
  .mk true [p1, p65] [p66] true (mI p66 (.ld t65)),
  .mk true [p5] [p67] true (mI p67 (.mv t5)),
  .mk true [p66, p67] [p68] true (mI p68 (.call p119 [t66, t67])),
  .mk true [p63, p68] [p69] true (mI p69 (.bin .mul t63 t68)),
  .mk true [p69] [p70] true (mI p70 (.bld [(.int .i64 (.ofNat 0)), .nils] [(0, 1, t69)])),
  .mk true [p1] [p71] true (mI p71 (.fa 2 t1)),
  .mk true [p1, p71] [p72] true (mI p72 (.ld t71)),
  .mk true [p70, p72] [p73] true (mI p73 (.bld [(.int .i64 (.ofNat 0)), .nils, (.bool false)] [(0, 2, t70), (2, 1, t72)])),
  .mk true [p2, p73] [p2] true (.mk none none (.st 3 t2 t73))])
 (.seq (.seq (.reg [mI p74 (.fa 0 t1),
  mI p75 (.fa 1 t74),
  mI p76 (.ld t75),
  mI p77 (.len t76),
  mI p78 (.mv (.c (.int .i64 (.ofNat 0))))])
 (.block 3 (.loop [p2, p5, p8, p76, p77, p78] (.seq (.reg [mI p79 (.bin .lt t78 t77)])
 (.seq (.cond t79 .skip (.exit 3))
 (.seq (.block 4 (.seq (.reg [mI p80 (.ia 2 t76 t78),
  mI p81 (.lda 2 t80),
  .loc p10 [(.int .i64 (.ofNat 0)), (.int .i64 (.ofNat 0))],
  .mk none none (.st 2 t10 t81)])
 (.drw [.mk true [p2] [p82] true (mI p82 (.fa 0 t2)),
  .mk true [p2, p82] [p83] true (mI p83 (.fa 1 t82)),
  .mk true [p2, p83] [p84] true (mI p84 (.ld t83)),
  .mk true [p10] [p85] true (mI p85 (.fa 0 t10)),
  .mk true [p10, p85] [p86] true (mI p86 (.ld t85)),
  .mk true [p8] [p87] true (mI p87 (.mv t8)),
  .mk true [p10] [p88] true (mI p88 (.fa 1 t10)),
  .mk true [p10, p88] [p89] true (mI p89 (.ld t88)),
  .mk true [p87, p89] [p90] true (mI p90 (.bin .mul t87 t89)),
  .mk true [p5] [p91] true (mI p91 (.mv t5)),
  .mk true [p90, p91] [p92] true (mI p92 (.bin .quo t90 t91)),
  .mk true [p86, p92] [p93] true (mI p93 (.bld [(.int .i64 (.ofNat 0)), (.int .i64 (.ofNat 0))] [(0, 1, t86), (1, 1, t92)])),
  .mk true [p93] [p94] true (mI p94 (.bsl 1 2 [(.int .i64 (.ofNat 0)), (.int .i64 (.ofNat 0))] [(0, 2, t93)])),
  .mk true [p84, p94] [p95] false (mI p95 (.app 2 16 t84 t94)),
  .mk true [p2] [p96] true (mI p96 (.fa 0 t2)),
  .mk true [p2, p96] [p97] true (mI p97 (.fa 1 t96)),
  .mk true [p2, p97, p95] [p2] true (.mk none none (.st 1 t97 t95))])))
 (.reg [mI p98 (.bin .add t78 (.c (.int .i64 (.ofNat 1)))),
  mI p78 (.mv t98)])))))))
 (.seq (.reg [mI p99 (.lda 3 t2),
  .mk none none (.st 3 t2 t99),
  mI p3 (.mv (.c (.int .i64 (.ofNat 0)))),
  mI p4 (.mv (.c (.int .i64 (.ofNat 0))))])
 .ret)))))))))))
 [.cell p2 (some 3), .t p3, .t p4]
def ls111 : List Nat := [1, 2, 7, 10]
def f112 : Fd := .mk [p0, p1]
 (.seq (.reg [.locb p2 t0,
  mI p3 (.mv (.c (.bool false)))])
 (.seq (.reg [mI p4 (.fa 2 t2),
  mI p5 (.ld t4),
  mI p6 (.fa 2 t1),
  mI p7 (.ld t6),
  mI p8 (.beq false t5 t7),
  mI p9 (.mv t8),
  .mk (some p10) (some (p9, true)) (.fa 0 t2),
  .mk (some p11) (some (p9, true)) (.lda 2 t10),
  .mk (some p12) (some (p9, true)) (.fa 0 t1),
  .mk (some p13) (some (p9, true)) (.lda 2 t12),
  .mk (some p14) (some (p9, true)) (.call p113 [t11, t13]),
  mI p15 (.pick t9 t14 (.c (.bool false))),
  mI p3 (.mv t15)])
 .ret))
 [.t p3]
def ls112 : List Nat := [2]
def f82 : Fd := .mk [p0, p1]
 (.seq (.reg [mI p4 (.mv (.c (.bool false)))])
 (.seq (.reg [mI p5 (.mv t0),
  mI p6 (.mv t1),
  mI p7 (.call p106 [t5, t6]),
  mI p8 (.bin .ge t7 (.c (.int .i64 (.ofNat 0)))),
  mI p4 (.mv t8)])
 .ret))
 [.t p4]
def ls82 : List Nat := []
def f50 : Fd := .mk [p0, p1]
 (.seq (.reg [mI p4 (.mv (.c (.bool false)))])
 (.seq (.reg [mI p5 (.mv t1),
  mI p6 (.bin .ge t5 (.c (.int .i64 (.ofNat 0)))),
  mI p7 (.mv t6),
  .mk (some p8) (some (p7, true)) (.mv t1),
  .mk (some p9) (some (p7, true)) (.bin .lt t8 (.c (.int .i64 (.ofNat 40)))),
  mI p10 (.pick t7 t9 (.c (.bool false))),
  mI p11 (.mv t10),
  .mk (some p12) (some (p11, true)) (.mv t0),
  .mk (some p13) (some (p11, true)) (.call p82 [t12, (.c (.fn p83 []))]),
  .mk (some p14) (some (p11, true)) (.not t13),
  mI p15 (.pick t11 t14 (.c (.bool false))),
  mI p4 (.mv t15)])
 .ret))
 [.t p4]
def ls50 : List Nat := []
def f51 : Fd := .mk [p0]
 (.seq (.reg [mI p2 (.mv (.c (.bool false)))])
 (.seq (.reg [mI p3 (.mv t0),
  mI p4 (.bin .eq t3 (.c (.int .i64 (.ofNat 1)))),
  mI p5 (.mv t4),
  .mk (some p6) (some (p5, false)) (.mv t0),
  .mk (some p7) (some (p5, false)) (.bin .eq t6 (.c (.int .i64 (.negSucc 0)))),
  mI p8 (.pick t5 (.c (.bool true)) t7),
  mI p2 (.mv t8)])
 .ret))
 [.t p2]
def ls51 : List Nat := []
def f64 : Fd := .mk [p0, p1]
 (.seq (.reg [.locb p2 t0,
  mI p4 (.mv (.c (.int .i64 (.ofNat 0))))])
 (.seq (.seq (.reg [mI p7 (.fa 1 t2),
  mI p8 (.ld t7),
  mI p9 (.len t8),
  mI p10 (.mv (.c (.int .i64 (.ofNat 0))))])
 (.block 0 (.loop [p1, p8, p9, p10] (.seq (.reg [mI p11 (.bin .lt t10 t9)])
 (.seq (.cond t11 .skip (.exit 0))
 (.seq (.block 1 (.seq (.reg [mI p12 (.ia 2 t8 t10),
  mI p13 (.lda 2 t12),
  .loc p6 [(.int .i64 (.ofNat 0)), (.int .i64 (.ofNat 0))],
  .mk none none (.st 2 t6 t13)])
 (.seq (.reg [mI p14 (.fa 0 t6),
  mI p15 (.ld t14),
  mI p16 (.mv t1),
  mI p17 (.bin .eq t15 t16)])
 (.cond t17 (.seq (.reg [mI p18 (.fa 1 t6),
  mI p19 (.ld t18),
  mI p4 (.mv t19)])
 .ret) .skip))))
 (.reg [mI p20 (.bin .add t10 (.c (.int .i64 (.ofNat 1)))),
  mI p10 (.mv t20)])))))))
 (.seq (.reg [mI p4 (.mv (.c (.int .i64 (.ofNat 0))))])
 .ret)))
 [.t p4]
def ls64 : List Nat := [2, 6]
def f67 : Fd := .mk [p0, p1, p2]
 (.seq (.reg [.locb p3 t0,
  mI p4 (.bx t1),
  .locb p5 t2,
  .loc p6 [(.int .i64 (.ofNat 0)), .nils],
  mI p7 (.mv (.c (.int .i64 (.ofNat 0))))])
 (.seq (.seq (.reg [mI p11 (.lda 2 t3),
  mI p12 (.call p66 [t11]),
  mI p13 (.bin .ne t12 (.c (.int .i64 (.ofNat 0)))),
  mI p14 (.mv t13),
  .mk (some p15) (some (p14, false)) (.lda 2 t5),
  .mk (some p16) (some (p14, false)) (.call p66 [t15]),
  .mk (some p17) (some (p14, false)) (.bin .ne t16 (.c (.int .i64 (.ofNat 0)))),
  mI p18 (.pick t14 (.c (.bool true)) t17)])
 (.cond t18 (.seq (.reg [mI p19 (.bld [(.int .i64 (.ofNat 0)), .nils] []),
  .mk none none (.st 2 t6 t19),
  mI p7 (.mv (.c (.int .i64 (.ofNat 1))))])
 .ret) .skip))
 (.seq (.drw [.mk true [p5] [p21] true (mI p21 (.vla 2 t5)),
  .mk true [p3] [p22] true (mI p22 (.vla 2 t3)),
  .mk true [p4] [p23] true (mI p23 (.ld t4)),
  .mk true [p22, p23] [p24] true (mI p24 (.call p64 [t22, t23])),
  .mk true [p21, p24] [p25] true (mI p25 (.call p77 [t21, t24])),
  .mk true [p25] [p20] true (mI p20 (.mv t25)),
  .mk true [p20] [p26] true (mI p26 (.ex t20 0)),
  .mk true [p20] [p27] true (mI p27 (.ex t20 1)),
  .mk true [p8] [p8] true (.loc p8 [(.int .i64 (.ofNat 0)), .nils]),
  .mk true [p8, p26] [p8] true (.mk none none (.st 2 t8 t26)),
  .mk true [p27] [p9] true (mI p9 (.mv t27))])
 (.seq (.seq (.reg [mI p28 (.mv t9),
  mI p29 (.bin .ne t28 (.c (.int .i64 (.ofNat 0))))])
 (.cond t29 (.seq (.reg [mI p30 (.bld [(.int .i64 (.ofNat 0)), .nils] []),
  mI p31 (.mv t9),
  .mk none none (.st 2 t6 t30),
  mI p7 (.mv t31)])
 .ret) .skip))
 (.seq (.reg [mI p32 (.lda 2 t3),
  mI p33 (.call p85 [t32]),
  .loc p10 [(.int .i64 (.ofNat 0)), .nils],
  .mk none none (.st 2 t10 t33)])
 (.seq (.reg [mI p34 (.fa 1 t10),
  mI p35 (.ld t34),
  mI p36 (.mfn p93 [t4]),
  mI p37 (.call p92 [t35, t36]),
  mI p38 (.fa 1 t10),
  .mk none none (.st 1 t38 t37)])
 (.seq (.reg [mI p39 (.lda 2 t10),
  mI p40 (.lda 2 t8),
  mI p41 (.call p86 [t39, t40]),
  mI p42 (.ex t41 0),
  mI p43 (.ex t41 1),
  .mk none none (.st 2 t6 t42),
  mI p7 (.mv t43)])
 .ret)))))))
 [.cell p6 (some 2), .t p7]
def ls67 : List Nat := [3, 5, 6, 8, 10]
def f77 : Fd := .mk [p0, p1]
 (.seq (.reg [.locb p2 t0,
  .loc p4 [(.int .i64 (.ofNat 0)), .nils],
  mI p5 (.mv (.c (.int .i64 (.ofNat 0))))])
 (.seq (.seq (.reg [mI p13 (.lda 2 t2),
  mI p14 (.call p66 [t13]),
  mI p15 (.bin .ne t14 (.c (.int .i64 (.ofNat 0))))])
 (.cond t15 (.seq (.reg [mI p16 (.bld [(.int .i64 (.ofNat 0)), .nils] []),
  .mk none none (.st 2 t4 t16),
  mI p5 (.mv (.c (.int .i64 (.ofNat 1))))])
 .ret) .skip))
 (.seq (.reg [mI p18 (.fa 0 t2),
  mI p19 (.ld t18),
  mI p20 (.mv t1),
  mI p21 (.call p95 [t19, t20, (.c (.int .i64 (.ofNat 1099511627776)))]),
  mI p17 (.mv t21),
  mI p22 (.ex t17 0),
  mI p23 (.ex t17 1),
  mI p6 (.mv t22),
  mI p7 (.mv t23)])
 (.seq (.reg [mI p24 (.mv t6),
  mI p25 (.bld [(.int .i64 (.ofNat 0)), .nils] [(0, 1, t24)]),
  .loc p8 [(.int .i64 (.ofNat 0)), .nils],
  .mk none none (.st 2 t8 t25)])
 (.seq (.seq (.reg [mI p26 (.fa 1 t2),
  mI p27 (.ld t26),
  mI p28 (.len t27),
  mI p29 (.mv (.c (.int .i64 (.ofNat 0))))])
 (.block 0 (.loop [p1, p4, p7, p8, p27, p28, p29] (.seq (.reg [mI p30 (.bin .lt t29 t28)])
 (.seq (.cond t30 .skip (.exit 0))
 (.seq (.block 1 (.seq (.reg [mI p31 (.ia 2 t27 t29),
  mI p32 (.lda 2 t31),
  .loc p10 [(.int .i64 (.ofNat 0)), (.int .i64 (.ofNat 0))],
  .mk none none (.st 2 t10 t32)])
 (.seq (.reg [mI p34 (.fa 1 t10),
  mI p35 (.ld t34),
  mI p36 (.mv t1),
  mI p37 (.call p95 [t35, t36, (.c (.int .i64 (.ofNat 1048576)))]),
  mI p33 (.mv t37),
  mI p38 (.ex t33 0),
  mI p39 (.ex t33 1),
  mI p11 (.mv t38),
  mI p12 (.mv t39)])
 (.seq (.reg [mI p40 (.mv t7),
  mI p41 (.mv t40),
  .mk (some p42) (some (p41, true)) (.mv t12),
  mI p43 (.pick t41 t42 (.c (.bool false))),
  mI p7 (.mv t43)])
 (.seq (.reg [mI p44 (.mv t11),
  mI p45 (.bin .ne t44 (.c (.int .i64 (.ofNat 0))))])
 (.cond t45 (.reg [mI p46 (.fa 1 t8),
  mI p47 (.ld t46),
  mI p48 (.fa 0 t10),
  mI p49 (.ld t48),
  mI p50 (.mv t11),
  mI p51 (.bld [(.int .i64 (.ofNat 0)), (.int .i64 (.ofNat 0))] [(0, 1, t49), (1, 1, t50)]),
  mI p52 (.bsl 1 2 [(.int .i64 (.ofNat 0)), (.int .i64 (.ofNat 0))] [(0, 2, t51)]),
  mI p53 (.app 2 16 t47 t52),
  mI p54 (.fa 1 t8),
  .mk none none (.st 1 t54 t53)]) .skip))))))
 (.reg [mI p55 (.bin .add t29 (.c (.int .i64 (.ofNat 1)))),
  mI p29 (.mv t55)])))))))
 (.seq (.seq (.reg [mI p56 (.mv t7),
  mI p57 (.not t56)])
 (.cond t57 (.seq (.reg [mI p58 (.bld [(.int .i64 (.ofNat 0)), .nils] []),
  .mk none none (.st 2 t4 t58),
  mI p5 (.mv (.c (.int .i64 (.ofNat 12))))])
 .ret) .skip))
 (.seq (.reg [mI p59 (.lda 2 t8),
  .mk none none (.st 2 t4 t59),
  mI p5 (.mv (.c (.int .i64 (.ofNat 0))))])
 .ret)))))))
 [.cell p4 (some 2), .t p5]
def ls77 : List Nat := [2, 4, 8, 10]
def f26 : Fd := .mk [p0, p1, p2]
 (.seq (.reg [.locb p5 t2,
  mI p6 (.mv (.c .nils)),
  mI p7 (.mv (.c (.int .i64 (.ofNat 0))))])
 (.seq (.seq (.reg [mI p13 (.mv t0),
  mI p14 (.mv t1),
  mI p15 (.call p50 [t13, t14]),
  mI p16 (.not t15),
  mI p17 (.mv t16),
  .mk (some p18) (some (p17, false)) (.lda 2 t5),
  .mk (some p19) (some (p17, false)) (.call p66 [t18]),
  .mk (some p20) (some (p17, false)) (.bin .ne t19 (.c (.int .i64 (.ofNat 0)))),
  mI p21 (.pick t17 (.c (.bool true)) t20)])
 (.cond t21 (.seq (.reg [mI p6 (.mv (.c .nils)),
  mI p7 (.mv (.c (.int .i64 (.ofNat 1))))])
 .ret) .skip))
 (.seq (.reg [mI p8 (.mv (.c .nils))])
 (.seq (.seq (.reg [mI p22 (.mv t0),
  mI p23 (.len t22),
  mI p24 (.mv (.c (.int .i64 (.ofNat 0))))])
 (.block 0 (.loop [p1, p5, p8, p22, p23, p24] (.seq (.reg [mI p25 (.bin .lt t24 t23)])
 (.seq (.cond t25 .skip (.exit 0))
 (.seq (.block 1 (.seq (.reg [mI p26 (.ia 3 t22 t24),
  mI p27 (.lda 3 t26),
  .loc p10 [(.int .i64 (.ofNat 0)), .nils, (.bool false)],
  .mk none none (.st 3 t10 t27)])
 (.seq (.reg [mI p29 (.fa 0 t10),
  mI p30 (.lda 2 t29),
  mI p31 (.mv t1),
  mI p32 (.lda 2 t5),
  mI p33 (.call p67 [t30, t31, t32]),
  mI p28 (.mv t33),
  mI p34 (.ex t28 0),
  mI p35 (.ex t28 1),
  .loc p11 [(.int .i64 (.ofNat 0)), .nils],
  .mk none none (.st 2 t11 t34),
  mI p12 (.mv t35)])
 (.seq (.seq (.reg [mI p36 (.mv t12),
  mI p37 (.bin .ne t36 (.c (.int .i64 (.ofNat 0))))])
 (.cond t37 (.seq (.reg [mI p6 (.mv (.c .nils)),
  mI p7 (.mv (.c (.int .i64 (.ofNat 12))))])
 .ret) .skip))
 (.reg [mI p38 (.mv t8),
  mI p39 (.lda 2 t11),
  mI p40 (.fa 2 t10),
  mI p41 (.ld t40),
  mI p42 (.bld [(.int .i64 (.ofNat 0)), .nils, (.bool false)] [(0, 2, t39), (2, 1, t41)]),
  mI p43 (.bsl 1 3 [(.int .i64 (.ofNat 0)), .nils, (.bool false)] [(0, 3, t42)]),
  mI p44 (.app 3 40 t38 t43),
  mI p8 (.mv t44)])))))
 (.reg [mI p45 (.bin .add t24 (.c (.int .i64 (.ofNat 1)))),
  mI p24 (.mv t45)])))))))
 (.seq (.reg [mI p46 (.mv t8),
  mI p6 (.mv t46),
  mI p7 (.mv (.c (.int .i64 (.ofNat 0))))])
 .ret)))))
 [.t p6, .t p7]
def ls26 : List Nat := [5, 10, 11]
def f78 : Fd := .mk [p0, p1]
 (.seq (.reg [.locb p2 t0,
  mI p3 (.bx t1),
  mI p4 (.mv (.c (.int .i64 (.ofNat 0)))),
  mI p5 (.mv (.c (.int .i64 (.ofNat 0))))])
 (.seq (.block 0 (.seq (.reg [mI p10 (.lda 2 t2),
  mI p11 (.call p66 [t10]),
  mI p12 (.bin .ne t11 (.c (.int .i64 (.ofNat 0)))),
  mI p9 (.mv t12)])
 (.cond t9 (.seq (.reg [mI p4 (.mv (.c (.int .i64 (.ofNat 0)))),
  mI p5 (.mv (.c (.int .i64 (.ofNat 1))))])
 .ret) (.seq (.reg [mI p14 (.fa 1 t2),
  mI p15 (.ld t14),
  mI p16 (.mfn p96 [t3]),
  mI p17 (.call p60 [t15, t16]),
  mI p13 (.mv t17)])
 (.cond t13 (.seq (.reg [mI p4 (.mv (.c (.int .i64 (.ofNat 0)))),
  mI p5 (.mv (.c (.int .i64 (.ofNat 5))))])
 .ret) (.seq (.reg [mI p19 (.ld t3),
  mI p20 (.call p62 [t19, (.c (.fn p97 []))]),
  mI p18 (.mv t20)])
 (.cond t18 (.seq (.reg [mI p4 (.mv (.c (.int .i64 (.ofNat 0)))),
  mI p5 (.mv (.c (.int .i64 (.ofNat 1))))])
 .ret) .skip)))))))
 (.seq (.reg [mI p21 (.fa 0 t2),
  mI p22 (.ld t21),
  mI p6 (.mv t22)])
 (.seq (.seq (.reg [mI p23 (.fa 1 t2),
  mI p24 (.ld t23),
  mI p25 (.len t24),
  mI p26 (.mv (.c (.int .i64 (.ofNat 0))))])
 (.block 1 (.loop [p3, p6, p24, p25, p26] (.seq (.reg [mI p27 (.bin .lt t26 t25)])
 (.seq (.cond t27 .skip (.exit 1))
 (.seq (.block 2 (.seq (.reg [mI p28 (.ia 2 t24 t26),
  mI p29 (.lda 2 t28),
  .loc p8 [(.int .i64 (.ofNat 0)), (.int .i64 (.ofNat 0))],
  .mk none none (.st 2 t8 t29)])
 (.drw [.mk true [p6] [p30] true (mI p30 (.mv t6)),
  .mk true [p8] [p31] true (mI p31 (.fa 1 t8)),
  .mk true [p8, p31] [p32] true (mI p32 (.ld t31)),
  .mk true [p3] [p33] true (mI p33 (.ld t3)),
  .mk true [p8] [p34] true (mI p34 (.fa 0 t8)),
  .mk true [p8, p34] [p35] true (mI p35 (.ld t34)),
  .mk true [p33, p35] [p36] true (mI p36 (.ia 1 t33 t35)),
  .mk true [p36] [p37] true (mI p37 (.ld t36)),
  .mk true [p32, p37] [p38] true (mI p38 (.bin .mul t32 t37)),
  .mk true [p30, p38] [p39] true (mI p39 (.bin .add t30 t38)),
  .mk true [p39] [p6] true (mI p6 (.mv t39))])))
 (.reg [mI p40 (.bin .add t26 (.c (.int .i64 (.ofNat 1)))),
  mI p26 (.mv t40)])))))))
 (.seq (.reg [mI p41 (.mv t6),
  mI p4 (.mv t41),
  mI p5 (.mv (.c (.int .i64 (.ofNat 0))))])
 .ret)))))
 [.t p4, .t p5]
def ls78 : List Nat := [2, 8]
def f114 : Fd := .prim 0
def f115 : Fd := .mk [p0]
 (.seq (.reg [mI p2 (.mv (.c .nils))])
 (.seq (.seq (.reg [mI p6 (.mv t0),
  mI p7 (.len t6),
  mI p8 (.bin .lt t7 (.c (.int .i64 (.ofNat 2))))])
 (.cond t8 (.seq (.reg [mI p9 (.mv t0),
  mI p2 (.mv t9)])
 .ret) .skip))
 (.seq (.seq (.reg [mI p3 (.mv (.c (.int .i64 (.ofNat 1))))])
 (.block 0 (.loop [p0, p3] (.seq (.seq (.reg [mI p10 (.mv t3),
  mI p11 (.mv t0),
  mI p12 (.len t11),
  mI p13 (.bin .lt t10 t12)])
 (.cond t13 .skip (.exit 0)))
 (.seq (.block 1 (.seq (.drw [.mk true [p0] [p16] true (mI p16 (.mv t0)),
  .mk true [p3] [p17] true (mI p17 (.mv t3)),
  .mk true [p16, p17] [p18] true (mI p18 (.ia 1 t16 t17)),
  .mk true [p18] [p19] true (mI p19 (.ld t18)),
  .mk true [p0] [p20] true (mI p20 (.mv t0)),
  .mk true [p3] [p21] true (mI p21 (.mv t3)),
  .mk true [p21] [p22] true (mI p22 (.bin .sub t21 (.c (.int .i64 (.ofNat 1))))),
  .mk true [p20, p22] [p23] true (mI p23 (.ia 1 t20 t22)),
  .mk true [p23] [p24] true (mI p24 (.ld t23)),
  .mk true [p19, p24] [p25] true (mI p25 (.bin .eq t19 t24))])
 (.cond t25 (.seq (.reg [mI p26 (.mv t0),
  mI p27 (.mv t3),
  mI p28 (.sla 1 t26 (some t27) none none),
  mI p4 (.mv t28)])
 (.seq (.seq (.reg [mI p5 (.mv (.c (.int .i64 (.ofNat 1))))])
 (.block 2 (.loop [p0, p3, p4, p5] (.seq (.seq (.reg [mI p29 (.mv t5),
  mI p30 (.mv t4),
  mI p31 (.len t30),
  mI p32 (.bin .lt t29 t31)])
 (.cond t32 .skip (.exit 2)))
 (.seq (.block 3 (.seq (.drw [.mk true [p4] [p35] true (mI p35 (.mv t4)),
  .mk true [p5] [p36] true (mI p36 (.mv t5)),
  .mk true [p35, p36] [p37] true (mI p37 (.ia 1 t35 t36)),
  .mk true [p37] [p38] true (mI p38 (.ld t37)),
  .mk true [p4] [p39] true (mI p39 (.mv t4)),
  .mk true [p5] [p40] true (mI p40 (.mv t5)),
  .mk true [p40] [p41] true (mI p41 (.bin .sub t40 (.c (.int .i64 (.ofNat 1))))),
  .mk true [p39, p41] [p42] true (mI p42 (.ia 1 t39 t41)),
  .mk true [p42] [p43] true (mI p43 (.ld t42)),
  .mk true [p38, p43] [p44] true (mI p44 (.bin .ne t38 t43))])
 (.cond t44 (.seq (.reg [mI p45 (.mv t0),
  mI p46 (.mv t3),
  mI p47 (.mv t4),
  mI p48 (.mv t5),
  mI p49 (.ia 1 t47 t48),
  mI p50 (.ld t49),
  mI p51 (.ia 1 t45 t46),
  .mk none none (.st 1 t51 t50)])
 (.reg [mI p52 (.mv t3),
  mI p53 (.bin .add t52 (.c (.int .i64 (.ofNat 1)))),
  mI p3 (.mv t53)])) .skip)))
 (.reg [mI p33 (.mv t5),
  mI p34 (.bin .add t33 (.c (.int .i64 (.ofNat 1)))),
  mI p5 (.mv t34)]))))))
 (.seq (.reg [mI p54 (.mv t0),
  mI p55 (.mv t3),
  mI p56 (.sla 1 t54 (some t55) none none),
  .mk none none (.clr 1 [(.int .i64 (.ofNat 0))] t56)])
 (.seq (.reg [mI p57 (.mv t0),
  mI p58 (.mv t3),
  mI p59 (.sla 1 t57 none (some t58) none),
  mI p2 (.mv t59)])
 .ret)))) .skip)))
 (.reg [mI p14 (.mv t3),
  mI p15 (.bin .add t14 (.c (.int .i64 (.ofNat 1)))),
  mI p3 (.mv t15)]))))))
 (.seq (.reg [mI p60 (.mv t0),
  mI p2 (.mv t60)])
 .ret))))
 [.t p2]
def ls115 : List Nat := []
def f116 : Fd := .mk [p0, p1]
 (.seq (.reg [mI p3 (.mv (.c (.bool false)))])
 (.seq (.reg [mI p7 (.ld t1),
  mI p8 (.mv t0),
  mI p9 (.call p24 [t7, t8]),
  mI p6 (.mv t9),
  mI p10 (.ex t6 0),
  mI p11 (.ex t6 1),
  mI p4 (.mv t10),
  mI p5 (.mv t11)])
 (.seq (.reg [mI p12 (.mv t4),
  mI p3 (.mv t12)])
 .ret)))
 [.t p3]
def ls116 : List Nat := []
def f90 : Fd := .mk [p0, p1]
 (.seq (.reg [mI p4 (.mv (.c (.int .i64 (.ofNat 0))))])
 (.seq (.seq (.reg [mI p6 (.mv t0),
  mI p7 (.len t6),
  mI p8 (.mv (.c (.int .i64 (.ofNat 0))))])
 (.block 0 (.loop [p0, p1, p7, p8] (.seq (.reg [mI p9 (.bin .lt t8 t7)])
 (.seq (.cond t9 .skip (.exit 0))
 (.seq (.block 1 (.seq (.reg [mI p10 (.mv t8),
  mI p5 (.mv t10)])
 (.seq (.reg [mI p11 (.mv t1),
  mI p12 (.mv t0),
  mI p13 (.mv t5),
  mI p14 (.ia 1 t12 t13),
  mI p15 (.ld t14),
  mI p16 (.callv t11 [t15])])
 (.cond t16 (.seq (.reg [mI p17 (.mv t5),
  mI p4 (.mv t17)])
 .ret) .skip))))
 (.reg [mI p18 (.bin .add t8 (.c (.int .i64 (.ofNat 1)))),
  mI p8 (.mv t18)])))))))
 (.seq (.reg [mI p4 (.mv (.c (.int .i64 (.negSucc 0))))])
 .ret)))
 [.t p4]
def ls90 : List Nat := []
def f53 : Fd := .mk [p0, p1]
 (.seq (.reg [mI p4 (.mv (.c .nils)),
  mI p5 (.mv (.c .nils)),
  mI p6 (.mv (.c .nils))])
 (.seq (.seq (.reg [mI p10 (.mv t0),
  mI p11 (.len t10),
  mI p12 (.mv (.c (.int .i64 (.ofNat 0))))])
 (.block 0 (.loop [p1, p4, p5, p6, p10, p11, p12] (.seq (.reg [mI p13 (.bin .lt t12 t11)])
 (.seq (.cond t13 .skip (.exit 0))
 (.seq (.block 1 (.seq (.reg [mI p14 (.ia 3 t10 t12),
  mI p15 (.lda 3 t14),
  .loc p8 [(.int .i64 (.ofNat 0)), .nils, (.bool false)],
  .mk none none (.st 3 t8 t15)])
 (.seq (.reg [mI p16 (.fa 0 t8),
  mI p17 (.lda 2 t16),
  mI p18 (.mv t1),
  mI p19 (.call p64 [t17, t18]),
  mI p9 (.mv t19)])
 (.block 2 (.seq (.reg [mI p25 (.mv t9),
  mI p26 (.bin .lt t25 (.c (.int .i64 (.ofNat 0)))),
  mI p24 (.mv t26)])
 (.cond t24 (.reg [mI p27 (.mv t4),
  mI p28 (.lda 3 t8),
  mI p29 (.bsl 1 3 [(.int .i64 (.ofNat 0)), .nils, (.bool false)] [(0, 3, t28)]),
  mI p30 (.app 3 40 t27 t29),
  mI p4 (.mv t30)]) (.seq (.reg [mI p32 (.mv t9),
  mI p33 (.bin .gt t32 (.c (.int .i64 (.ofNat 0)))),
  mI p31 (.mv t33)])
 (.cond t31 (.reg [mI p34 (.mv t5),
  mI p35 (.lda 3 t8),
  mI p36 (.bsl 1 3 [(.int .i64 (.ofNat 0)), .nils, (.bool false)] [(0, 3, t35)]),
  mI p37 (.app 3 40 t34 t36),
  mI p5 (.mv t37)]) (.reg [mI p20 (.mv t6),
  mI p21 (.lda 3 t8),
  mI p22 (.bsl 1 3 [(.int .i64 (.ofNat 0)), .nils, (.bool false)] [(0, 3, t21)]),
  mI p23 (.app 3 40 t20 t22),
  mI p6 (.mv t23)])))))))))
 (.reg [mI p38 (.bin .add t12 (.c (.int .i64 (.ofNat 1)))),
  mI p12 (.mv t38)])))))))
 (.seq (.reg [mI p39 (.mv t4),
  mI p40 (.mv t5),
  mI p41 (.mv t6),
  mI p4 (.mv t39),
  mI p5 (.mv t40),
  mI p6 (.mv t41)])
 .ret)))
 [.t p4, .t p5, .t p6]
def ls53 : List Nat := [8]
def f52 : Fd := .mk [p0, p1]
 (.seq (.reg [mI p4 (.mv (.c (.int .i64 (.ofNat 0))))])
 (.seq (.block 0 (.seq (.reg [mI p6 (.mv t0),
  mI p7 (.mv t1),
  mI p8 (.call p50 [t6, t7]),
  mI p9 (.not t8),
  mI p5 (.mv t9)])
 (.cond t5 (.seq (.reg [mI p4 (.mv (.c (.int .i64 (.ofNat 1))))])
 .ret) (.seq (.reg [mI p11 (.mv t0),
  mI p12 (.mv t1),
  mI p13 (.call p84 [t11, t12]),
  mI p10 (.mv t13)])
 (.cond t10 (.seq (.reg [mI p4 (.mv (.c (.int .i64 (.ofNat 11))))])
 .ret) .skip)))))
 (.seq (.reg [mI p4 (.mv (.c (.int .i64 (.ofNat 0))))])
 .ret)))
 [.t p4]
def ls52 : List Nat := []
def f54 : Fd := .mk [p0]
 (.seq (.reg [.locb p1 t0,
  .loc p2 [(.int .i64 (.ofNat 0)), .nils, (.bool false)]])
 (.seq (.drw [.mk true [p1] [p3] true (mI p3 (.fa 0 t1)),
  .mk true [p1, p3] [p4] true (mI p4 (.lda 2 t3)),
  .mk true [p4] [p5] true (mI p5 (.call p85 [t4])),
  .mk true [p1] [p6] true (mI p6 (.fa 2 t1)),
  .mk true [p1, p6] [p7] true (mI p7 (.ld t6)),
  .mk true [p5, p7] [p8] true (mI p8 (.bld [(.int .i64 (.ofNat 0)), .nils, (.bool false)] [(0, 2, t5), (2, 1, t7)])),
  .mk true [p2, p8] [p2] true (.mk none none (.st 3 t2 t8))])
 .ret))
 [.cell p2 (some 3)]
def ls54 : List Nat := [1, 2]
def f55 : Fd := .mk [p0, p1, p2]
 (.seq (.reg [.locb p3 t0,
  .locb p4 t1,
  .loc p6 [(.int .i64 (.ofNat 0)), .nils, (.bool false)],
  mI p7 (.mv (.c (.int .i64 (.ofNat 0))))])
 (.seq (.drw [.mk true [p4] [p14] true (mI p14 (.fa 0 t4)),
  .mk true [p4, p14] [p15] true (mI p15 (.lda 2 t14)),
  .mk true [p3] [p16] true (mI p16 (.fa 0 t3)),
  .mk true [p3, p16] [p17] true (mI p17 (.lda 2 t16)),
  .mk true [p2] [p18] true (mI p18 (.mv t2)),
  .mk true [p17, p18] [p19] true (mI p19 (.call p64 [t17, t18])),
  .mk true [p19] [p20] true (mI p20 (.neg t19)),
  .mk true [p15, p20] [p21] true (mI p21 (.call p77 [t15, t20])),
  .mk true [p21] [p13] true (mI p13 (.mv t21)),
  .mk true [p13] [p22] true (mI p22 (.ex t13 0)),
  .mk true [p13] [p23] true (mI p23 (.ex t13 1)),
  .mk true [p8] [p8] true (.loc p8 [(.int .i64 (.ofNat 0)), .nils]),
  .mk true [p8, p22] [p8] true (.mk none none (.st 2 t8 t22)),
  .mk true [p23] [p9] true (mI p9 (.mv t23))])
 (.seq (.drw [.mk true [p3] [p25] true (mI p25 (.fa 0 t3)),
  .mk true [p3, p25] [p26] true (mI p26 (.lda 2 t25)),
  .mk true [p4] [p27] true (mI p27 (.fa 0 t4)),
  .mk true [p4, p27] [p28] true (mI p28 (.lda 2 t27)),
  .mk true [p2] [p29] true (mI p29 (.mv t2)),
  .mk true [p28, p29] [p30] true (mI p30 (.call p64 [t28, t29])),
  .mk true [p26, p30] [p31] true (mI p31 (.call p77 [t26, t30])),
  .mk true [p31] [p24] true (mI p24 (.mv t31)),
  .mk true [p24] [p32] true (mI p32 (.ex t24 0)),
  .mk true [p24] [p33] true (mI p33 (.ex t24 1)),
  .mk true [p10] [p10] true (.loc p10 [(.int .i64 (.ofNat 0)), .nils]),
  .mk true [p10, p32] [p10] true (.mk none none (.st 2 t10 t32)),
  .mk true [p33] [p11] true (mI p11 (.mv t33))])
 (.seq (.seq (.reg [mI p34 (.mv t9),
  mI p35 (.bin .ne t34 (.c (.int .i64 (.ofNat 0)))),
  mI p36 (.mv t35),
  .mk (some p37) (some (p36, false)) (.mv t11),
  .mk (some p38) (some (p36, false)) (.bin .ne t37 (.c (.int .i64 (.ofNat 0)))),
  mI p39 (.pick t36 (.c (.bool true)) t38)])
 (.cond t39 (.seq (.reg [mI p40 (.bld [(.int .i64 (.ofNat 0)), .nils, (.bool false)] []),
  .mk none none (.st 3 t6 t40),
  mI p7 (.mv (.c (.int .i64 (.ofNat 12))))])
 .ret) .skip))
 (.seq (.reg [mI p42 (.lda 2 t8),
  mI p43 (.lda 2 t10),
  mI p44 (.call p86 [t42, t43]),
  mI p41 (.mv t44),
  mI p45 (.ex t41 0),
  mI p46 (.ex t41 1),
  .loc p12 [(.int .i64 (.ofNat 0)), .nils],
  .mk none none (.st 2 t12 t45),
  mI p9 (.mv t46)])
 (.seq (.reg [mI p47 (.lda 2 t12),
  mI p48 (.bld [(.int .i64 (.ofNat 0)), .nils, (.bool false)] [(0, 2, t47)]),
  mI p49 (.mv t9),
  .mk none none (.st 3 t6 t48),
  mI p7 (.mv t49)])
 .ret))))))
 [.cell p6 (some 3), .t p7]
def ls55 : List Nat := [3, 4, 6, 8, 10, 12]
def f59 : Fd := .mk [p0]
 (.seq (.reg [mI p2 (.mv (.c .nils))])
 (.seq (.reg [mI p3 (.mv (.c (.int .i64 (.ofNat 0))))])
 (.seq (.seq (.reg [mI p9 (.mv t0),
  mI p10 (.len t9),
  mI p11 (.mv (.c (.int .i64 (.ofNat 0))))])
 (.block 0 (.loop [p0, p3, p9, p10, p11] (.seq (.reg [mI p12 (.bin .lt t11 t10)])
 (.seq (.cond t12 .skip (.exit 0))
 (.seq (.block 1 (.seq (.reg [mI p13 (.ia 1 t9 t11),
  mI p14 (.ld t13),
  mI p5 (.mv t14)])
 (.seq (.reg [mI p15 (.mv t3),
  mI p16 (.mv t5),
  mI p17 (.len t16),
  mI p18 (.bin .add t15 t17),
  mI p3 (.mv t18)])
 (.seq (.reg [mI p19 (.mv t3),
  mI p20 (.bin .lt t19 (.c (.int .i64 (.ofNat 0))))])
 (.cond t20 (.reg [mI p21 (.bad),
  .mk none none (.bad)]) .skip)))))
 (.reg [mI p22 (.bin .add t11 (.c (.int .i64 (.ofNat 1)))),
  mI p11 (.mv t22)])))))))
 (.seq (.reg [mI p23 (.mv t3),
  mI p24 (.call p88 [(.c .nils), t23]),
  mI p6 (.mv t24)])
 (.seq (.seq (.reg [mI p25 (.mv t0),
  mI p26 (.len t25),
  mI p27 (.mv (.c (.int .i64 (.ofNat 0))))])
 (.block 2 (.loop [p6, p25, p26, p27] (.seq (.reg [mI p28 (.bin .lt t27 t26)])
 (.seq (.cond t28 .skip (.exit 2))
 (.seq (.block 3 (.seq (.reg [mI p29 (.ia 1 t25 t27),
  mI p30 (.ld t29),
  mI p8 (.mv t30)])
 (.reg [mI p31 (.mv t6),
  mI p32 (.mv t8),
  mI p33 (.app 3 40 t31 t32),
  mI p6 (.mv t33)])))
 (.reg [mI p34 (.bin .add t27 (.c (.int .i64 (.ofNat 1)))),
  mI p27 (.mv t34)])))))))
 (.seq (.reg [mI p35 (.mv t6),
  mI p2 (.mv t35)])
 .ret))))))
 [.t p2]
def ls59 : List Nat := []
def f61 : Fd := .mk [p0, p1, p2]
 (.seq (.reg [.locb p3 t0,
  mI p4 (.mv (.c (.bool false)))])
 (.seq (.reg [mI p5 (.fa 0 t3),
  mI p6 (.ld t5),
  mI p7 (.ld t1),
  mI p8 (.bin .ne t6 t7),
  mI p9 (.mv t8),
  .mk (some p10) (some (p9, true)) (.fa 0 t3),
  .mk (some p11) (some (p9, true)) (.ld t10),
  .mk (some p12) (some (p9, true)) (.ld t2),
  .mk (some p13) (some (p9, true)) (.len t12),
  .mk (some p14) (some (p9, true)) (.bin .ge t11 t13),
  mI p15 (.pick t9 t14 (.c (.bool false))),
  mI p4 (.mv t15)])
 .ret))
 [.t p4]
def ls61 : List Nat := [3]
def f60 : Fd := .mk [p0, p1]
 (.seq (.reg [mI p4 (.mv (.c (.bool false)))])
 (.seq (.reg [mI p5 (.mv t0),
  mI p6 (.mv t1),
  mI p7 (.call p89 [t5, t6]),
  mI p8 (.bin .ge t7 (.c (.int .i64 (.ofNat 0)))),
  mI p4 (.mv t8)])
 .ret))
 [.t p4]
def ls60 : List Nat := []
def f62 : Fd := .mk [p0, p1]
 (.seq (.reg [mI p4 (.mv (.c (.bool false)))])
 (.seq (.reg [mI p5 (.mv t0),
  mI p6 (.mv t1),
  mI p7 (.call p90 [t5, t6]),
  mI p8 (.bin .ge t7 (.c (.int .i64 (.ofNat 0)))),
  mI p4 (.mv t8)])
 .ret))
 [.t p4]
def ls62 : List Nat := []
def f63 : Fd := .mk [p0]
 (.seq (.reg [mI p2 (.mv (.c (.bool false)))])
 (.seq (.reg [mI p3 (.mv t0),
  mI p4 (.bin .lt t3 (.c (.int .i64 (.negSucc 2147483647)))),
  mI p5 (.mv t4),
  .mk (some p6) (some (p5, false)) (.mv t0),
  .mk (some p7) (some (p5, false)) (.bin .gt t6 (.c (.int .i64 (.ofNat 2147483647)))),
  mI p8 (.pick t5 (.c (.bool true)) t7),
  mI p2 (.mv t8)])
 .ret))
 [.t p2]
def ls63 : List Nat := []
def f65 : Fd := .mk [p0, p1]
 (.seq (.reg [mI p4 (.mv (.c (.int .i64 (.ofNat 0))))])
 (.seq (.reg [mI p6 (.mv t0),
  mI p7 (.mv t1),
  mI p8 (.bin .quo t6 t7),
  mI p5 (.mv t8)])
 (.seq (.seq (.reg [mI p9 (.mv t0),
  mI p10 (.mv t1),
  mI p11 (.bin .rem t9 t10),
  mI p12 (.bin .lt t11 (.c (.int .i64 (.ofNat 0))))])
 (.cond t12 (.reg [mI p13 (.mv t5),
  mI p14 (.bin .sub t13 (.c (.int .i64 (.ofNat 1)))),
  mI p5 (.mv t14)]) .skip))
 (.seq (.reg [mI p15 (.mv t5),
  mI p4 (.mv t15)])
 .ret))))
 [.t p4]
def ls65 : List Nat := []
def f117 : Fd := .mk [p0]
 (.seq (.reg [.locb p1 t0,
  mI p2 (.mv (.c (.int .i64 (.ofNat 0))))])
 (.seq (.seq (.reg [mI p3 (.fa 0 t1),
  mI p4 (.fa 0 t3),
  mI p5 (.ld t4),
  mI p6 (.bin .eq t5 (.c (.int .i64 (.ofNat 0)))),
  mI p7 (.mv t6),
  .mk (some p8) (some (p7, false)) (.fa 0 t1),
  .mk (some p9) (some (p7, false)) (.fa 0 t8),
  .mk (some p10) (some (p7, false)) (.ld t9),
  .mk (some p11) (some (p7, false)) (.bin .lt t10 (.c (.int .i64 (.ofNat 0)))),
  .mk (some p12) (some (p7, false)) (.mv t11),
  .mk (some p13) (some (p12, true)) (.fa 2 t1),
  .mk (some p14) (some (p12, true)) (.ld t13),
  .mk (some p15) (some (p12, true)) (.not t14),
  .mk (some p16) (some (p7, false)) (.pick t12 t15 (.c (.bool false))),
  mI p17 (.pick t7 (.c (.bool true)) t16)])
 (.cond t17 (.seq (.reg [mI p2 (.mv (.c (.int .i64 (.ofNat 2))))])
 .ret) .skip))
 (.seq (.reg [mI p2 (.mv (.c (.int .i64 (.ofNat 1))))])
 .ret)))
 [.t p2]
def ls117 : List Nat := [1]
def f118 : Fd := .mk [p0, p1]
 (.seq (.reg [mI p4 (.mv (.c (.int .i64 (.ofNat 0))))])
 (.seq (.block 0 (.loop [p0, p1] (.seq (.seq (.reg [mI p5 (.mv t1),
  mI p6 (.bin .ne t5 (.c (.int .i64 (.ofNat 0))))])
 (.cond t6 .skip (.exit 0)))
 (.block 1 (.drw [.mk true [p1] [p7] true (mI p7 (.mv t1)),
  .mk true [p0] [p8] true (mI p8 (.mv t0)),
  .mk true [p1] [p9] true (mI p9 (.mv t1)),
  .mk true [p8, p9] [p10] true (mI p10 (.bin .rem t8 t9)),
  .mk true [p7] [p0] true (mI p0 (.mv t7)),
  .mk true [p10] [p1] true (mI p1 (.mv t10))])))))
 (.seq (.reg [mI p11 (.mv t0),
  mI p12 (.mv t0),
  mI p13 (.neg t12),
  mI p14 (.mx t11 [t13]),
  mI p4 (.mv t14)])
 .ret)))
 [.t p4]
def ls118 : List Nat := []
def f119 : Fd := .mk [p0, p1]
 (.seq (.reg [mI p4 (.mv (.c (.int .i64 (.ofNat 0))))])
 (.seq (.reg [mI p6 (.mv t0),
  mI p7 (.mv t1),
  mI p8 (.bin .quo t6 t7),
  mI p5 (.mv t8)])
 (.seq (.seq (.reg [mI p9 (.mv t0),
  mI p10 (.mv t1),
  mI p11 (.bin .rem t9 t10),
  mI p12 (.bin .gt t11 (.c (.int .i64 (.ofNat 0))))])
 (.cond t12 (.reg [mI p13 (.mv t5),
  mI p14 (.bin .add t13 (.c (.int .i64 (.ofNat 1)))),
  mI p5 (.mv t14)]) .skip))
 (.seq (.reg [mI p15 (.mv t5),
  mI p4 (.mv t15)])
 .ret))))
 [.t p4]
def ls119 : List Nat := []
def f113 : Fd := .mk [p0, p1]
 (.seq (.reg [.locb p2 t0,
  .locb p3 t1,
  mI p4 (.mv (.c (.bool false)))])
 (.seq (.reg [mI p5 (.fa 0 t2),
  mI p6 (.ld t5),
  mI p7 (.fa 0 t3),
  mI p8 (.ld t7),
  mI p9 (.bin .eq t6 t8),
  mI p10 (.mv t9),
  .mk (some p11) (some (p10, true)) (.fa 1 t2),
  .mk (some p12) (some (p10, true)) (.ld t11),
  .mk (some p13) (some (p10, true)) (.fa 1 t3),
  .mk (some p14) (some (p10, true)) (.ld t13),
  .mk (some p15) (some (p10, true)) (.call p120 [t12, t14]),
  mI p16 (.pick t10 t15 (.c (.bool false))),
  mI p4 (.mv t16)])
 .ret))
 [.t p4]
def ls113 : List Nat := [2, 3]
def f106 : Fd := .mk [p0, p1]
 (.seq (.reg [mI p4 (.mv (.c (.int .i64 (.ofNat 0))))])
 (.seq (.seq (.reg [mI p6 (.mv t0),
  mI p7 (.len t6),
  mI p8 (.mv (.c (.int .i64 (.ofNat 0))))])
 (.block 0 (.loop [p0, p1, p7, p8] (.seq (.reg [mI p9 (.bin .lt t8 t7)])
 (.seq (.cond t9 .skip (.exit 0))
 (.seq (.block 1 (.seq (.reg [mI p10 (.mv t8),
  mI p5 (.mv t10)])
 (.seq (.reg [mI p11 (.mv t1),
  mI p12 (.mv t0),
  mI p13 (.mv t5),
  mI p14 (.ia 3 t12 t13),
  mI p15 (.lda 3 t14),
  mI p16 (.callv t11 [t15])])
 (.cond t16 (.seq (.reg [mI p17 (.mv t5),
  mI p4 (.mv t17)])
 .ret) .skip))))
 (.reg [mI p18 (.bin .add t8 (.c (.int .i64 (.ofNat 1)))),
  mI p8 (.mv t18)])))))))
 (.seq (.reg [mI p4 (.mv (.c (.int .i64 (.negSucc 0))))])
 .ret)))
 [.t p4]
def ls106 : List Nat := []
def f83 : Fd := .mk [p0]
 (.seq (.reg [.locb p1 t0,
  mI p2 (.mv (.c (.bool false)))])
 (.seq (.reg [mI p3 (.fa 0 t1),
  mI p4 (.lda 2 t3),
  mI p5 (.call p66 [t4]),
  mI p6 (.bin .ne t5 (.c (.int .i64 (.ofNat 0)))),
  mI p2 (.mv t6)])
 .ret))
 [.t p2]
def ls83 : List Nat := [1]
def f85 : Fd := .mk [p0]
 (.seq (.reg [.locb p1 t0,
  .loc p2 [(.int .i64 (.ofNat 0)), .nils]])
 (.seq (.drw [.mk true [p1] [p3] true (mI p3 (.fa 0 t1)),
  .mk true [p1, p3] [p4] true (mI p4 (.ld t3)),
  .mk true [p1] [p5] true (mI p5 (.fa 1 t1)),
  .mk true [p1, p5] [p6] true (mI p6 (.ld t5)),
  .mk true [p6] [p7] true (mI p7 (.call p108 [t6])),
  .mk true [p4, p7] [p8] true (mI p8 (.bld [(.int .i64 (.ofNat 0)), .nils] [(0, 1, t4), (1, 1, t7)])),
  .mk true [p2, p8] [p2] true (.mk none none (.st 2 t2 t8))])
 .ret))
 [.cell p2 (some 2)]
def ls85 : List Nat := [1, 2]
def f93 : Fd := .mk [p0, p1]
 (.seq (.reg [.locb p2 t0,
  mI p3 (.mv (.c (.bool false)))])
 (.seq (.reg [mI p4 (.fa 0 t2),
  mI p5 (.ld t4),
  mI p6 (.ld t1),
  mI p7 (.bin .eq t5 t6),
  mI p3 (.mv t7)])
 .ret))
 [.t p3]
def ls93 : List Nat := [2]
def f92 : Fd := .mk [p0, p1]
 (.seq (.reg [mI p4 (.mv (.c .nils))])
 (.seq (.reg [mI p8 (.mv t0),
  mI p9 (.mv t1),
  mI p10 (.call p89 [t8, t9]),
  mI p5 (.mv t10)])
 (.seq (.seq (.reg [mI p11 (.mv t5),
  mI p12 (.bin .eq t11 (.c (.int .i64 (.negSucc 0))))])
 (.cond t12 (.seq (.reg [mI p13 (.mv t0),
  mI p4 (.mv t13)])
 .ret) .skip))
 (.seq (.seq (.reg [mI p14 (.mv t5),
  mI p15 (.bin .add t14 (.c (.int .i64 (.ofNat 1)))),
  mI p6 (.mv t15)])
 (.block 0 (.loop [p0, p1, p5, p6] (.seq (.seq (.reg [mI p16 (.mv t6),
  mI p17 (.mv t0),
  mI p18 (.len t17),
  mI p19 (.bin .lt t16 t18)])
 (.cond t19 .skip (.exit 0)))
 (.seq (.block 1 (.seq (.reg [mI p22 (.mv t0),
  mI p23 (.mv t6),
  mI p24 (.ia 2 t22 t23),
  mI p25 (.lda 2 t24),
  .loc p7 [(.int .i64 (.ofNat 0)), (.int .i64 (.ofNat 0))],
  .mk none none (.st 2 t7 t25)])
 (.seq (.reg [mI p26 (.mv t1),
  mI p27 (.lda 2 t7),
  mI p28 (.callv t26 [t27]),
  mI p29 (.not t28)])
 (.cond t29 (.seq (.reg [mI p30 (.mv t0),
  mI p31 (.mv t5),
  mI p32 (.lda 2 t7),
  mI p33 (.ia 2 t30 t31),
  .mk none none (.st 2 t33 t32)])
 (.reg [mI p34 (.mv t5),
  mI p35 (.bin .add t34 (.c (.int .i64 (.ofNat 1)))),
  mI p5 (.mv t35)])) .skip))))
 (.reg [mI p20 (.mv t6),
  mI p21 (.bin .add t20 (.c (.int .i64 (.ofNat 1)))),
  mI p6 (.mv t21)]))))))
 (.seq (.reg [mI p36 (.mv t0),
  mI p37 (.mv t5),
  mI p38 (.sla 2 t36 (some t37) none none),
  .mk none none (.clr 2 [(.int .i64 (.ofNat 0)), (.int .i64 (.ofNat 0))] t38)])
 (.seq (.reg [mI p39 (.mv t0),
  mI p40 (.mv t5),
  mI p41 (.sla 2 t39 none (some t40) none),
  mI p4 (.mv t41)])
 .ret))))))
 [.t p4]
def ls92 : List Nat := [7]
def f86 : Fd := .mk [p0, p1]
 (.seq (.reg [.locb p2 t0,
  .locb p3 t1,
  .loc p4 [(.int .i64 (.ofNat 0)), .nils],
  mI p5 (.mv (.c (.int .i64 (.ofNat 0))))])
 (.seq (.seq (.reg [mI p6 (.lda 2 t2),
  mI p7 (.call p66 [t6]),
  mI p8 (.bin .ne t7 (.c (.int .i64 (.ofNat 0)))),
  mI p9 (.mv t8),
  .mk (some p10) (some (p9, false)) (.lda 2 t3),
  .mk (some p11) (some (p9, false)) (.call p66 [t10]),
  .mk (some p12) (some (p9, false)) (.bin .ne t11 (.c (.int .i64 (.ofNat 0)))),
  mI p13 (.pick t9 (.c (.bool true)) t12)])
 (.cond t13 (.seq (.reg [mI p14 (.bld [(.int .i64 (.ofNat 0)), .nils] []),
  .mk none none (.st 2 t4 t14),
  mI p5 (.mv (.c (.int .i64 (.ofNat 1))))])
 .ret) .skip))
 (.seq (.reg [mI p15 (.lda 2 t2),
  mI p16 (.lda 2 t3),
  mI p17 (.call p110 [t15, t16]),
  mI p18 (.call p109 [t17]),
  mI p19 (.ex t18 0),
  mI p20 (.ex t18 1),
  .mk none none (.st 2 t4 t19),
  mI p5 (.mv t20)])
 .ret)))
 [.cell p4 (some 2), .t p5]
def ls86 : List Nat := [2, 3, 4]
def f95 : Fd := .mk [p0, p1, p2]
 (.seq (.reg [mI p6 (.mv (.c (.int .i64 (.ofNat 0)))),
  mI p7 (.mv (.c (.bool false)))])
 (.seq (.seq (.reg [mI p10 (.mv t0),
  mI p11 (.bin .eq t10 (.c (.int .i64 (.ofNat 0)))),
  mI p12 (.mv t11),
  .mk (some p13) (some (p12, false)) (.mv t1),
  .mk (some p14) (some (p12, false)) (.bin .eq t13 (.c (.int .i64 (.ofNat 0)))),
  mI p15 (.pick t12 (.c (.bool true)) t14)])
 (.cond t15 (.seq (.reg [mI p6 (.mv (.c (.int .i64 (.ofNat 0)))),
  mI p7 (.mv (.c (.bool true)))])
 .ret) .skip))
 (.seq (.seq (.reg [mI p16 (.mv t0),
  mI p17 (.mv t2),
  mI p18 (.call p91 [t16, t17]),
  mI p19 (.not t18),
  mI p20 (.mv t19),
  .mk (some p21) (some (p20, false)) (.mv t1),
  .mk (some p22) (some (p20, false)) (.mv t2),
  .mk (some p23) (some (p20, false)) (.call p91 [t21, t22]),
  .mk (some p24) (some (p20, false)) (.not t23),
  mI p25 (.pick t20 (.c (.bool true)) t24)])
 (.cond t25 (.seq (.reg [mI p6 (.mv (.c (.int .i64 (.ofNat 0)))),
  mI p7 (.mv (.c (.bool false)))])
 .ret) .skip))
 (.seq (.reg [mI p26 (.mv t0),
  mI p27 (.mv t0),
  mI p28 (.neg t27),
  mI p29 (.mx t26 [t28]),
  mI p30 (.mv t1),
  mI p31 (.mv t1),
  mI p32 (.neg t31),
  mI p33 (.mx t30 [t32]),
  mI p8 (.mv t29),
  mI p9 (.mv t33)])
 (.seq (.drw [.mk true [p0] [p34] true (mI p34 (.mv t0)),
  .mk true [p1] [p35] true (mI p35 (.mv t1)),
  .mk true [p34, p35] [p36] true (mI p36 (.bin .mul t34 t35)),
  .mk true [p8] [p37] true (mI p37 (.mv t8)),
  .mk true [p2] [p38] true (mI p38 (.mv t2)),
  .mk true [p9] [p39] true (mI p39 (.mv t9)),
  .mk true [p38, p39] [p40] true (mI p40 (.bin .quo t38 t39)),
  .mk true [p37, p40] [p41] true (mI p41 (.bin .le t37 t40)),
  .mk true [p36] [p6] true (mI p6 (.mv t36)),
  .mk true [p41] [p7] true (mI p7 (.mv t41))])
 .ret)))))
 [.t p6, .t p7]
def ls95 : List Nat := []
def f96 : Fd := .mk [p0, p1]
 (.seq (.reg [.locb p2 t0,
  mI p3 (.mv (.c (.bool false)))])
 (.seq (.reg [mI p4 (.fa 0 t2),
  mI p5 (.ld t4),
  mI p6 (.ld t1),
  mI p7 (.len t6),
  mI p8 (.bin .ge t5 t7),
  mI p3 (.mv t8)])
 .ret))
 [.t p3]
def ls96 : List Nat := [2]
def f97 : Fd := .mk [p0]
 (.seq (.reg [mI p2 (.mv (.c (.bool false)))])
 (.seq (.reg [mI p3 (.mv t0),
  mI p4 (.bin .lt t3 (.c (.int .i64 (.negSucc 2147483647)))),
  mI p5 (.mv t4),
  .mk (some p6) (some (p5, false)) (.mv t0),
  .mk (some p7) (some (p5, false)) (.bin .gt t6 (.c (.int .i64 (.ofNat 2147483647)))),
  mI p8 (.pick t5 (.c (.bool true)) t7),
  mI p2 (.mv t8)])
 .ret))
 [.t p2]
def ls97 : List Nat := []
def f24 : Fd := .mk [p0, p1]
 (.seq (.reg [mI p4 (.mv (.c (.bool false))),
  mI p5 (.mv (.c (.int .i64 (.ofNat 0))))])
 (.seq (.reg [mI p10 (.mv t0),
  mI p11 (.mv t1),
  mI p12 (.call p52 [t10, t11]),
  mI p6 (.mv t12)])
 (.seq (.seq (.reg [mI p13 (.mv t6),
  mI p14 (.bin .ne t13 (.c (.int .i64 (.ofNat 0))))])
 (.cond t14 (.seq (.reg [mI p15 (.mv t6),
  mI p4 (.mv (.c (.bool false))),
  mI p5 (.mv t15)])
 .ret) .skip))
 (.seq (.reg [mI p17 (.mv t0),
  mI p18 (.mv t1),
  mI p19 (.call p53 [t17, t18]),
  mI p16 (.mv t19),
  mI p20 (.ex t16 0),
  mI p21 (.ex t16 1),
  mI p22 (.ex t16 2),
  mI p7 (.mv t20),
  mI p8 (.mv t21),
  mI p9 (.mv t22)])
 (.seq (.reg [mI p23 (.mv t7),
  mI p24 (.mv t1),
  mI p25 (.call p58 [t23, t24, (.c (.int .i64 (.negSucc 0)))]),
  mI p26 (.mv t25),
  .mk (some p27) (some (p26, false)) (.mv t8),
  .mk (some p28) (some (p26, false)) (.mv t1),
  .mk (some p29) (some (p26, false)) (.call p58 [t27, t28, (.c (.int .i64 (.ofNat 1)))]),
  mI p30 (.pick t26 (.c (.bool true)) t29),
  mI p4 (.mv t30),
  mI p5 (.mv (.c (.int .i64 (.ofNat 0))))])
 .ret)))))
 [.t p4, .t p5]
def ls24 : List Nat := []
def f84 : Fd := .mk [p0, p1]
 (.seq (.reg [mI p3 (.bx t1),
  mI p4 (.mv (.c (.bool false)))])
 (.seq (.reg [mI p5 (.mv t0),
  mI p6 (.mfn p107 [t3]),
  mI p7 (.call p82 [t5, t6]),
  mI p4 (.mv t7)])
 .ret))
 [.t p4]
def ls84 : List Nat := []
def f88 : Fd := .mk [p0, p1]
 (.seq (.reg [mI p4 (.mv (.c .nils))])
 (.seq (.seq (.reg [mI p5 (.mv t1),
  mI p6 (.bin .lt t5 (.c (.int .i64 (.ofNat 0))))])
 (.cond t6 (.reg [mI p7 (.bad),
  .mk none none (.bad)]) .skip))
 (.seq (.seq (.reg [mI p8 (.mv t1),
  mI p9 (.mv t0),
  mI p10 (.cap t9),
  mI p11 (.mv t0),
  mI p12 (.len t11),
  mI p13 (.bin .sub t10 t12),
  mI p14 (.bin .sub t8 t13),
  mI p1 (.mv t14)])
 (.seq (.reg [mI p15 (.mv t1),
  mI p16 (.bin .gt t15 (.c (.int .i64 (.ofNat 0))))])
 (.cond t16 (.reg [mI p17 (.mv t0),
  mI p18 (.mv t0),
  mI p19 (.cap t18),
  mI p20 (.sla 3 t17 none (some t19) none),
  mI p21 (.mv t1),
  mI p22 (.apz 3 40 [(.int .i64 (.ofNat 0)), .nils, (.bool false)] t20 t21),
  mI p23 (.mv t0),
  mI p24 (.len t23),
  mI p25 (.sla 3 t22 none (some t24) none),
  mI p0 (.mv t25)]) .skip)))
 (.seq (.reg [mI p26 (.mv t0),
  mI p4 (.mv t26)])
 .ret))))
 [.t p4]
def ls88 : List Nat := []
def f89 : Fd := .mk [p0, p1]
 (.seq (.reg [mI p4 (.mv (.c (.int .i64 (.ofNat 0))))])
 (.seq (.seq (.reg [mI p6 (.mv t0),
  mI p7 (.len t6),
  mI p8 (.mv (.c (.int .i64 (.ofNat 0))))])
 (.block 0 (.loop [p0, p1, p7, p8] (.seq (.reg [mI p9 (.bin .lt t8 t7)])
 (.seq (.cond t9 .skip (.exit 0))
 (.seq (.block 1 (.seq (.reg [mI p10 (.mv t8),
  mI p5 (.mv t10)])
 (.seq (.reg [mI p11 (.mv t1),
  mI p12 (.mv t0),
  mI p13 (.mv t5),
  mI p14 (.ia 2 t12 t13),
  mI p15 (.lda 2 t14),
  mI p16 (.callv t11 [t15])])
 (.cond t16 (.seq (.reg [mI p17 (.mv t5),
  mI p4 (.mv t17)])
 .ret) .skip))))
 (.reg [mI p18 (.bin .add t8 (.c (.int .i64 (.ofNat 1)))),
  mI p8 (.mv t18)])))))))
 (.seq (.reg [mI p4 (.mv (.c (.int .i64 (.negSucc 0))))])
 .ret)))
 [.t p4]
def ls89 : List Nat := []
def f120 : Fd := .mk [p0, p1]
 (.seq (.reg [mI p4 (.mv (.c (.bool false)))])
 (.seq (.seq (.reg [mI p6 (.mv t0),
  mI p7 (.len t6),
  mI p8 (.mv t1),
  mI p9 (.len t8),
  mI p10 (.bin .ne t7 t9)])
 (.cond t10 (.seq (.reg [mI p4 (.mv (.c (.bool false)))])
 .ret) .skip))
 (.seq (.seq (.reg [mI p11 (.mv t0),
  mI p12 (.len t11),
  mI p13 (.mv (.c (.int .i64 (.ofNat 0))))])
 (.block 0 (.loop [p0, p1, p12, p13] (.seq (.reg [mI p14 (.bin .lt t13 t12)])
 (.seq (.cond t14 .skip (.exit 0))
 (.seq (.block 1 (.seq (.reg [mI p15 (.mv t13),
  mI p5 (.mv t15)])
 (.seq (.drw [.mk true [p0] [p16] true (mI p16 (.mv t0)),
  .mk true [p5] [p17] true (mI p17 (.mv t5)),
  .mk true [p16, p17] [p18] true (mI p18 (.ia 2 t16 t17)),
  .mk true [p18] [p19] true (mI p19 (.lda 2 t18)),
  .mk true [p1] [p20] true (mI p20 (.mv t1)),
  .mk true [p5] [p21] true (mI p21 (.mv t5)),
  .mk true [p20, p21] [p22] true (mI p22 (.ia 2 t20 t21)),
  .mk true [p22] [p23] true (mI p23 (.lda 2 t22)),
  .mk true [p19, p23] [p24] true (mI p24 (.aeq [false, false] true t19 t23))])
 (.cond t24 (.seq (.reg [mI p4 (.mv (.c (.bool false)))])
 .ret) .skip))))
 (.reg [mI p25 (.bin .add t13 (.c (.int .i64 (.ofNat 1)))),
  mI p13 (.mv t25)])))))))
 (.seq (.reg [mI p4 (.mv (.c (.bool true)))])
 .ret))))
 [.t p4]
def ls120 : List Nat := []
def f108 : Fd := .mk [p0]
 (.seq (.reg [mI p2 (.mv (.c .nils))])
 (.seq (.seq (.reg [mI p3 (.mv t0),
  mI p4 (.isnil false t3)])
 (.cond t4 (.seq (.reg [mI p2 (.mv (.c .nils))])
 .ret) .skip))
 (.seq (.reg [mI p5 (.bsl 0 2 [] []),
  mI p6 (.mv t0),
  mI p7 (.app 2 16 t5 t6),
  mI p2 (.mv t7)])
 .ret)))
 [.t p2]
def ls108 : List Nat := []
def f110 : Fd := .mk [p0, p1]
 (.seq (.reg [.locb p2 t0,
  .locb p3 t1,
  .loc p4 [(.int .i64 (.ofNat 0)), .nils]])
 (.seq (.reg [mI p9 (.fa 0 t2),
  mI p10 (.ld t9),
  mI p11 (.fa 0 t3),
  mI p12 (.ld t11),
  mI p13 (.bin .add t10 t12),
  mI p14 (.bld [(.int .i64 (.ofNat 0)), .nils] [(0, 1, t13)]),
  .loc p5 [(.int .i64 (.ofNat 0)), .nils],
  .mk none none (.st 2 t5 t14)])
 (.seq (.drw [.mk true [p2] [p15] true (mI p15 (.fa 1 t2)),
  .mk true [p2, p15] [p16] true (mI p16 (.ld t15)),
  .mk true [p3] [p17] true (mI p17 (.fa 1 t3)),
  .mk true [p3, p17] [p18] true (mI p18 (.ld t17)),
  .mk true [p16] [p6] true (mI p6 (.mv t16)),
  .mk true [p18] [p7] true (mI p7 (.mv t18))])
 (.seq (.block 0 (.loop [p4, p5, p6, p7] (.seq (.seq (.reg [mI p19 (.mv t6),
  mI p20 (.len t19),
  mI p21 (.bin .gt t20 (.c (.int .i64 (.ofNat 0)))),
  mI p22 (.mv t21),
  .mk (some p23) (some (p22, false)) (.mv t7),
  .mk (some p24) (some (p22, false)) (.len t23),
  .mk (some p25) (some (p22, false)) (.bin .gt t24 (.c (.int .i64 (.ofNat 0)))),
  mI p26 (.pick t22 (.c (.bool true)) t25)])
 (.cond t26 .skip (.exit 0)))
 (.block 1 (.seq (.reg [.loc p8 [(.int .i64 (.ofNat 0)), (.int .i64 (.ofNat 0))]])
 (.seq (.block 2 (.seq (.drw [.mk true [p7] [p46] true (mI p46 (.mv t7)),
  .mk true [p46] [p47] true (mI p47 (.len t46)),
  .mk true [p47] [p48] true (mI p48 (.bin .eq t47 (.c (.int .i64 (.ofNat 0))))),
  .mk true [p48] [p49] true (mI p49 (.mv t48)),
  .mk true [p6, p49] [p50] true (.mk (some p50) (some (p49, false)) (.mv t6)),
  .mk true [p50, p49] [p51] true (.mk (some p51) (some (p49, false)) (.len t50)),
  .mk true [p51, p49] [p52] true (.mk (some p52) (some (p49, false)) (.bin .gt t51 (.c (.int .i64 (.ofNat 0))))),
  .mk true [p52, p49] [p53] true (.mk (some p53) (some (p49, false)) (.mv t52)),
  .mk true [p6, p53] [p54] true (.mk (some p54) (some (p53, true)) (.mv t6)),
  .mk true [p54, p53] [p55] true (.mk (some p55) (some (p53, true)) (.ia 2 t54 (.c (.int .i64 (.ofNat 0))))),
  .mk true [p55, p53] [p56] true (.mk (some p56) (some (p53, true)) (.fa 0 t55)),
  .mk true [p56, p53] [p57] true (.mk (some p57) (some (p53, true)) (.ld t56)),
  .mk true [p7, p53] [p58] true (.mk (some p58) (some (p53, true)) (.mv t7)),
  .mk true [p58, p53] [p59] true (.mk (some p59) (some (p53, true)) (.ia 2 t58 (.c (.int .i64 (.ofNat 0))))),
  .mk true [p59, p53] [p60] true (.mk (some p60) (some (p53, true)) (.fa 0 t59)),
  .mk true [p60, p53] [p61] true (.mk (some p61) (some (p53, true)) (.ld t60)),
  .mk true [p57, p61, p53] [p62] true (.mk (some p62) (some (p53, true)) (.bin .lt t57 t61)),
  .mk true [p53, p62, p49] [p63] true (.mk (some p63) (some (p49, false)) (.pick t53 t62 (.c (.bool false)))),
  .mk true [p49, p63] [p64] true (mI p64 (.pick t49 (.c (.bool true)) t63)),
  .mk true [p64] [p45] true (mI p45 (.mv t64))])
 (.cond t45 (.drw [.mk true [p6] [p65] true (mI p65 (.mv t6)),
  .mk true [p65] [p66] true (mI p66 (.ia 2 t65 (.c (.int .i64 (.ofNat 0))))),
  .mk true [p66] [p67] true (mI p67 (.lda 2 t66)),
  .mk true [p6] [p68] true (mI p68 (.mv t6)),
  .mk true [p68] [p69] true (mI p69 (.sla 2 t68 (some (.c (.int .i64 (.ofNat 1)))) none none)),
  .mk true [p8, p67] [p8] true (.mk none none (.st 2 t8 t67)),
  .mk true [p69] [p6] true (mI p6 (.mv t69))]) (.seq (.drw [.mk true [p6] [p71] true (mI p71 (.mv t6)),
  .mk true [p71] [p72] true (mI p72 (.len t71)),
  .mk true [p72] [p73] true (mI p73 (.bin .eq t72 (.c (.int .i64 (.ofNat 0))))),
  .mk true [p73] [p74] true (mI p74 (.mv t73)),
  .mk true [p7, p74] [p75] true (.mk (some p75) (some (p74, false)) (.mv t7)),
  .mk true [p75, p74] [p76] true (.mk (some p76) (some (p74, false)) (.ia 2 t75 (.c (.int .i64 (.ofNat 0))))),
  .mk true [p76, p74] [p77] true (.mk (some p77) (some (p74, false)) (.fa 0 t76)),
  .mk true [p77, p74] [p78] true (.mk (some p78) (some (p74, false)) (.ld t77)),
  .mk true [p6, p74] [p79] true (.mk (some p79) (some (p74, false)) (.mv t6)),
  .mk true [p79, p74] [p80] true (.mk (some p80) (some (p74, false)) (.ia 2 t79 (.c (.int .i64 (.ofNat 0))))),
  .mk true [p80, p74] [p81] true (.mk (some p81) (some (p74, false)) (.fa 0 t80)),
  .mk true [p81, p74] [p82] true (.mk (some p82) (some (p74, false)) (.ld t81)),
  .mk true [p78, p82, p74] [p83] true (.mk (some p83) (some (p74, false)) (.bin .lt t78 t82)),
  .mk true [p74, p83] [p84] true (mI p84 (.pick t74 (.c (.bool true)) t83)),
  .mk true [p84] [p70] true (mI p70 (.mv t84))])
 (.cond t70 (.drw [.mk true [p7] [p85] true (mI p85 (.mv t7)),
  .mk true [p85] [p86] true (mI p86 (.ia 2 t85 (.c (.int .i64 (.ofNat 0))))),
  .mk true [p86] [p87] true (mI p87 (.lda 2 t86)),
  .mk true [p7] [p88] true (mI p88 (.mv t7)),
  .mk true [p88] [p89] true (mI p89 (.sla 2 t88 (some (.c (.int .i64 (.ofNat 1)))) none none)),
  .mk true [p8, p87] [p8] true (.mk none none (.st 2 t8 t87)),
  .mk true [p89] [p7] true (mI p7 (.mv t89))]) (.seq (.drw [.mk true [p6] [p27] true (mI p27 (.mv t6)),
  .mk true [p27] [p28] true (mI p28 (.ia 2 t27 (.c (.int .i64 (.ofNat 0))))),
  .mk true [p28] [p29] true (mI p29 (.fa 0 t28)),
  .mk true [p29] [p30] true (mI p30 (.ld t29)),
  .mk true [p6] [p31] true (mI p31 (.mv t6)),
  .mk true [p31] [p32] true (mI p32 (.ia 2 t31 (.c (.int .i64 (.ofNat 0))))),
  .mk true [p32] [p33] true (mI p33 (.fa 1 t32)),
  .mk true [p33] [p34] true (mI p34 (.ld t33)),
  .mk true [p7] [p35] true (mI p35 (.mv t7)),
  .mk true [p35] [p36] true (mI p36 (.ia 2 t35 (.c (.int .i64 (.ofNat 0))))),
  .mk true [p36] [p37] true (mI p37 (.fa 1 t36)),
  .mk true [p37] [p38] true (mI p38 (.ld t37)),
  .mk true [p34, p38] [p39] true (mI p39 (.bin .add t34 t38)),
  .mk true [p30, p39] [p40] true (mI p40 (.bld [(.int .i64 (.ofNat 0)), (.int .i64 (.ofNat 0))] [(0, 1, t30), (1, 1, t39)])),
  .mk true [p8, p40] [p8] true (.mk none none (.st 2 t8 t40))])
 (.drw [.mk true [p6] [p41] true (mI p41 (.mv t6)),
  .mk true [p41] [p42] true (mI p42 (.sla 2 t41 (some (.c (.int .i64 (.ofNat 1)))) none none)),
  .mk true [p7] [p43] true (mI p43 (.mv t7)),
  .mk true [p43] [p44] true (mI p44 (.sla 2 t43 (some (.c (.int .i64 (.ofNat 1)))) none none)),
  .mk true [p42] [p6] true (mI p6 (.mv t42)),
  .mk true [p44] [p7] true (mI p7 (.mv t44))])))))))
 (.seq (.reg [mI p90 (.fa 1 t8),
  mI p91 (.ld t90),
  mI p92 (.bin .ne t91 (.c (.int .i64 (.ofNat 0))))])
 (.cond t92 (.reg [mI p93 (.fa 1 t5),
  mI p94 (.ld t93),
  mI p95 (.lda 2 t8),
  mI p96 (.bsl 1 2 [(.int .i64 (.ofNat 0)), (.int .i64 (.ofNat 0))] [(0, 2, t95)]),
  mI p97 (.app 2 16 t94 t96),
  mI p98 (.fa 1 t5),
  .mk none none (.st 1 t98 t97)]) .skip))))))))
 (.seq (.reg [mI p99 (.lda 2 t5),
  .mk none none (.st 2 t4 t99)])
 .ret)))))
 [.cell p4 (some 2)]
def ls110 : List Nat := [2, 3, 4, 5, 8]
def f109 : Fd := .mk [p0]
 (.seq (.reg [.locb p1 t0,
  .loc p2 [(.int .i64 (.ofNat 0)), .nils],
  mI p3 (.mv (.c (.int .i64 (.ofNat 0))))])
 (.seq (.seq (.reg [mI p4 (.lda 2 t1),
  mI p5 (.call p66 [t4]),
  mI p6 (.bin .ne t5 (.c (.int .i64 (.ofNat 0))))])
 (.cond t6 (.seq (.reg [mI p7 (.bld [(.int .i64 (.ofNat 0)), .nils] []),
  .mk none none (.st 2 t2 t7),
  mI p3 (.mv (.c (.int .i64 (.ofNat 12))))])
 .ret) .skip))
 (.seq (.reg [mI p8 (.lda 2 t1),
  .mk none none (.st 2 t2 t8),
  mI p3 (.mv (.c (.int .i64 (.ofNat 0))))])
 .ret)))
 [.cell p2 (some 2), .t p3]
def ls109 : List Nat := [1, 2]
def f58 : Fd := .mk [p0, p1, p2]
 (.seq (.reg [mI p4 (.bx t1),
  mI p5 (.bx t2),
  mI p6 (.mv (.c (.bool false)))])
 (.seq (.reg [mI p7 (.mv t0),
  mI p8 (.mfn p87 [t4, t5]),
  mI p9 (.call p82 [t7, t8]),
  mI p10 (.not t9),
  mI p6 (.mv t10)])
 .ret))
 [.t p6]
def ls58 : List Nat := []
def f107 : Fd := .mk [p0, p1]
 (.seq (.reg [.locb p2 t0,
  mI p3 (.mv (.c (.bool false)))])
 (.seq (.reg [mI p4 (.fa 2 t2),
  mI p5 (.ld t4),
  mI p6 (.mv t5),
  .mk (some p7) (some (p6, true)) (.fa 0 t2),
  .mk (some p8) (some (p6, true)) (.lda 2 t7),
  .mk (some p9) (some (p6, true)) (.ld t1),
  .mk (some p10) (some (p6, true)) (.call p64 [t8, t9]),
  .mk (some p11) (some (p6, true)) (.bin .ne t10 (.c (.int .i64 (.ofNat 0)))),
  mI p12 (.pick t6 t11 (.c (.bool false))),
  mI p3 (.mv t12)])
 .ret))
 [.t p3]
def ls107 : List Nat := [2]
def f87 : Fd := .mk [p0, p1, p2]
 (.seq (.reg [.locb p3 t0,
  mI p4 (.mv (.c (.bool false)))])
 (.seq (.drw [.mk true [p3] [p5] true (mI p5 (.fa 0 t3)),
  .mk true [p3, p5] [p6] true (mI p6 (.lda 2 t5)),
  .mk true [p1] [p7] true (mI p7 (.ld t1)),
  .mk true [p6, p7] [p8] true (mI p8 (.call p64 [t6, t7])),
  .mk true [p2] [p9] true (mI p9 (.ld t2)),
  .mk true [p8, p9] [p10] true (mI p10 (.bin .ne t8 t9)),
  .mk true [p10] [p4] true (mI p4 (.mv t10))])
 .ret))
 [.t p4]
def ls87 : List Nat := [3]
def FT : Tr Fd := (.nd none (.nd none (.nd none (.nd none (.nd none (.nd none (.nd (some f63) .nl .nl) (.nd (some f95) .nl .nl)) (.nd (some f47) (.nd (some f79) .nl .nl) (.nd (some f111) .nl .nl))) (.nd none (.nd none .nl (.nd (some f103) .nl .nl)) (.nd (some f55) (.nd (some f87) .nl .nl) (.nd (some f119) .nl .nl)))) (.nd (some f11) (.nd none (.nd (some f35) (.nd (some f67) .nl .nl) (.nd (some f99) .nl .nl)) (.nd (some f51) (.nd (some f83) .nl .nl) (.nd (some f115) .nl .nl))) (.nd none (.nd none .nl (.nd (some f107) .nl .nl)) (.nd (some f59) (.nd (some f91) .nl .nl) .nl)))) (.nd none (.nd none (.nd (some f17) (.nd none (.nd (some f65) .nl .nl) (.nd (some f97) .nl .nl)) (.nd none (.nd (some f81) .nl .nl) (.nd (some f113) .nl .nl))) (.nd (some f25) (.nd none .nl (.nd (some f105) .nl .nl)) (.nd none (.nd (some f89) .nl .nl) .nl))) (.nd none (.nd (some f21) (.nd (some f37) .nl (.nd (some f101) .nl .nl)) (.nd (some f53) (.nd (some f85) .nl .nl) (.nd (some f117) .nl .nl))) (.nd none (.nd (some f45) (.nd (some f77) .nl .nl) (.nd (some f109) .nl .nl)) (.nd (some f61) (.nd (some f93) .nl .nl) .nl))))) (.nd none (.nd none (.nd none (.nd none (.nd none (.nd (some f64) .nl .nl) (.nd (some f96) .nl .nl)) (.nd (some f48) (.nd (some f80) .nl .nl) (.nd (some f112) .nl .nl))) (.nd (some f24) (.nd none .nl (.nd (some f104) .nl .nl)) (.nd none (.nd (some f88) .nl .nl) (.nd (some f120) .nl .nl)))) (.nd none (.nd none (.nd none .nl (.nd (some f100) .nl .nl)) (.nd (some f52) (.nd (some f84) .nl .nl) (.nd (some f116) .nl .nl))) (.nd none (.nd none .nl (.nd (some f108) .nl .nl)) (.nd (some f60) (.nd (some f92) .nl .nl) .nl)))) (.nd none (.nd none (.nd none (.nd none (.nd (some f66) .nl .nl) (.nd (some f98) .nl .nl)) (.nd (some f50) (.nd (some f82) .nl .nl) (.nd (some f114) .nl .nl))) (.nd (some f26) (.nd none .nl (.nd (some f106) .nl .nl)) (.nd (some f58) (.nd (some f90) .nl .nl) .nl))) (.nd none (.nd none (.nd none .nl (.nd (some f102) .nl .nl)) (.nd (some f54) (.nd (some f86) .nl .nl) (.nd (some f118) .nl .nl))) (.nd none (.nd (some f46) (.nd (some f78) .nl .nl) (.nd (some f110) .nl .nl)) (.nd (some f62) .nl .nl))))))
def kOf : List Mono → Int → Int
  | [], _ => 0
  | m :: l, v => if m.v = v then m.k else kOf l v
def roomB (n most : Int) : Bool := decide (-most ≤ n) && decide (n ≤ most)
def okM (m : Mono) : Bool := decide (0 ≤ m.v) && decide (m.v < 40) && decide (m.k ≠ 0) && roomB m.k 1048576
def okFrom : Option Int → List Mono → Bool
  | _, [] => true
  | p, m :: l => okM m && (match p with | none => true | some q => decide (q < m.v)) && okFrom (some m.v) l
def okT (c : Int) (l : List Mono) : Bool := roomB c 1099511627776 && decide (l.length ≤ 40) && okFrom none l
def okC (x : Cons) : Bool := okT x.t.c x.t.l
def rightB (l : List Cons) (v : Int) : Bool := decide (0 ≤ v) && decide (v < 40) && l.all okC
def hasB (l : List Cons) (v : Int) : Bool := l.any fun x => x.eq && decide (kOf x.t.l v ≠ 0)
def mayE (l : List Cons) (v : Int) : Int := if rightB l v = false then 1 else if hasB l v = true then 11 else 0
def idxOf {α : Type} (p : α → Bool) : List α → Int → Int
  | [], _ => -1
  | x :: l, i => if p x then i else idxOf p l (i + 1)
theorem idxOf_nonneg {α : Type} (p : α → Bool) : ∀ (l : List α) (i : Int), 0 ≤ i → (decide (0 ≤ idxOf p l i) = l.any p)
  | [], i, _ => by simp [idxOf]
  | x :: l, i, h => by
    have ih := idxOf_nonneg p l (i + 1) (by omega)
    by_cases hp : p x = true
    · simp [idxOf, hp, h]
    · simp only [idxOf, List.any_cons, hp, Bool.false_eq_true, if_false]
      rw [ih]; simp
def prevOf (l : List Mono) (i : Nat) : Option Int := if i = 0 then none else (l[i - 1]?).map (·.v)
def oneB (k : Int) : Bool := decide (k = 1) || decide (k = -1)
end Go.Proofs.Ythdlkpmhjbaplaa.Dx
namespace Go.Proofs.Ythdlkpmhjbaplaa.Dx
open Go
open Nat renaming reduceAdd → rdA, reduceMul → rdM, reduceLeDiff → rdL, reduceLT → rdT, reduceEqDiff → rdE
open Int renaming reduceNegSucc → rdN
attribute [local irreducible] wCall wLoop
attribute [local go_sem] decide_true decide_false Bool.and_true Bool.true_and Bool.and_self Bool.false_and Bool.and_false vMs vCs vIs Slots At Tr.get_z Tr.get_l Tr.get_r Tr.get_e Tr.set_z_e Tr.set_z_n Tr.set_l_e Tr.set_l_n Tr.set_r_e Tr.set_r_n eOs_n eOs_c eDs_n eDs_c ekOs ekDs ekPut ekBack ekSeq_n ekSeq_x ekSeq_r ekBlk_n ekBlk_x ekBlk_r eO_mk eO_gd eO_loc eO_locb eD_mk eD_loc eD_locb eD_gd eDr eC_skip eC_reg eC_drw eC_seq eC_cond eC_block eC_loop eC_exit eC_ret eRetW_n eRetW_r wk wkL eRet_n eRet_r ekLd_n ekLd_x ekLd_r ekLp_n ekLp_x ekLp_r wI wBin wBd vev vov vovs vplace vouter ofDV ofDVs vcells spl vfills vput vuse vuseP vback vbackP wOf vbare isVarV vkeep hget hset hdels hdel hkeys live vw vwL keysV keysL pureV pureL vsrc veqs vmx vmn vT cT vC cC VOb.cells vres vrsL vrs1 vone List.length_cons List.length_nil List.getElem?_cons_zero List.getElem?_cons_succ List.take_succ_cons List.take_zero List.drop_succ_cons List.drop_zero List.drop_nil List.take_nil List.nil_append List.cons_append List.append_nil Option.some.injEq Nat.zero_add Nat.add_zero if_true if_false ite_true ite_false true_and and_true false_and and_false true_implies implies_true false_implies Bool.true_eq_false Bool.false_eq_true Bool.not_true Bool.not_false eq_self_iff_true Int.toNat_natCast Int.ofNat_eq_natCast Int.ofNat_zero Int.ofNat_one Int.cast_ofNat_Int VV.int.injEq VV.bool.injEq cond_true cond_false
theorem K_ok (c : Int) (l : List Mono) (v : Int) (hl : l.length ≤ 4611686018427387904) : VPure FT p64 [.agg [.int .i64 c, .fz l.length none 2 (encM l)], .int .i64 v] (.int .i64 (kOf l v)) := by
  refine vpure_of_body (f := p64) rfl rfl ?_
  simp (implicitDefEqProofs := false) only [go_sem, reduceCtorEq, rdA, rdM, rdL, rdT, rdE, rdN, ↓gTT, ↓gFF, ↓gTF, ↓gFT]
  refine wLoop_by (fun n s => ∃ i : Nat, i + n = l.length ∧ At s [(p1, .int .i64 v), (p8, vMs l), (p9, .int .i64 l.length), (p10, .int .i64 i)] 0 0 [] ∧ kOf l v = kOf (l.drop i) v) l.length ?_ ?_
  · exact ⟨0, by simp, by simp (implicitDefEqProofs := false) only [go_sem, reduceCtorEq, rdA, rdM, rdL, rdT, rdE, rdN, ↓gTT, ↓gFF, ↓gTF, ↓gFT], by simp⟩
  · rintro n ⟨e, nx, w, h⟩ ⟨i, hi, ⟨⟨h1, h2, h3, h4, -⟩, rfl, rfl, rfl⟩, hk⟩
    rcases Nat.lt_or_ge i l.length with hlt | hge
    · obtain ⟨m, hm⟩ := has hlt
      rw [drop_cons hm] at hk
      simp (implicitDefEqProofs := false) only [h1, h2, h3, h4, ltT hlt, encM_cut hm, encM_len, inc64 hlt hl, go_sem, reduceCtorEq, rdA, rdM, rdL, rdT, rdE, rdN, ↓gTT, ↓gFF, ↓gTF, ↓gFT]
      refine ⟨by omega, by omega, fun h => ?_, fun h => ⟨n - 1, by omega, i + 1, by omega, rfl, ?_⟩⟩
      · rw [hk]; simp at h; simp [kOf, h]
      · rw [hk]; simp at h; simp [kOf, h]
    · simp (implicitDefEqProofs := false) only [h1, h2, h3, h4, ltF hge, go_sem, reduceCtorEq, rdA, rdM, rdL, rdT, rdE, rdN, ↓gTT, ↓gFF, ↓gTF, ↓gFT]
      rw [hk, List.drop_eq_nil_of_le hge]; rfl
theorem room_ok (n m : Int) (hm : 0 ≤ m ∧ m ≤ 4611686018427387904) : VPure FT p91 [.int .i64 n, .int .i64 m] (.bool (roomB n m)) := by
  refine vpure_of_body (f := p91) rfl rfl ?_
  have h := i64 (z := -m) (by omega)
  simp (implicitDefEqProofs := false) only [h, go_sem, reduceCtorEq, rdA, rdM, rdL, rdT, rdE, rdN, ↓gTT, ↓gFF, ↓gTF, ↓gFT]
  unfold roomB
  refine ⟨fun h => ?_, fun h => ?_⟩ <;> simp only [h] <;> simp
set_option maxHeartbeats 1000000 in
theorem Check_ok (c : Int) (l : List Mono) (hl : l.length ≤ 4611686018427387904) : VPure FT p66 [.agg [.int .i64 c, .fz l.length none 2 (encM l)]] (.int .i64 (if okT c l then 0 else 1)) := by
  refine vpure_of_body (f := p66) rfl rfl ?_
  simp (implicitDefEqProofs := false) only [go_sem, reduceCtorEq, rdA, rdM, rdL, rdT, rdE, rdN, ↓gTT, ↓gFF, ↓gTF, ↓gFT]
  repeat' (first | (with_reducible refine And.intro ?_ ?_) | (with_reducible refine gs_t ?_ ?_) | (with_reducible refine gs_f ?_ ?_) | (intro _) | ((with_reducible apply wCall_any); (· (simp (implicitDefEqProofs := false) only [go_sem, reduceCtorEq, rdA, rdM, rdL, rdT, rdE, rdN, ↓gTT, ↓gFF, ↓gTF, ↓gFT] <;> rfl)); (· (exact room_ok _ _ (by omega))); (· rfl); (· rfl); (· (first | exact Eq.refl true | exact Eq.refl false)); (simp (implicitDefEqProofs := false) only [go_sem, reduceCtorEq, rdA, rdM, rdL, rdT, rdE, rdN, ↓gTT, ↓gFF, ↓gTF, ↓gFT])) | fail)
  · rename_i h1 h2; simp at h1 h2; unfold okT; rw [if_neg]; simp; omega
  · rename_i h1 h2
    have h1' : roomB c 1099511627776 = true := by simpa using h1
    have h2' : l.length ≤ 40 := by simp at h2; omega
    refine wLoop_by (fun n s => ∃ i : Nat, i + n = l.length ∧ At s [(p1, .var [.int .i64 c, .fz l.length none 2 (encM l)]), (p16, .fz l.length none 2 (encM l)), (p17, .int .i64 l.length), (p18, .int .i64 i)] 0 0 [] ∧ okFrom none l = okFrom (prevOf l i) (l.drop i)) l.length ?_ ?_
    · exact ⟨0, by simp, by simp (implicitDefEqProofs := false) only [go_sem, reduceCtorEq, rdA, rdM, rdL, rdT, rdE, rdN, ↓gTT, ↓gFF, ↓gTF, ↓gFT], by simp [prevOf]⟩
    · rintro n ⟨e, nx, w, h⟩ ⟨i, hi, ⟨⟨s1, s2, s3, s4, -⟩, rfl, rfl, rfl⟩, hk⟩
      rcases Nat.lt_or_ge i l.length with hlt | hge
      · obtain ⟨m, hm⟩ := has hlt
        rw [drop_cons hm] at hk
        have key : ∀ q, prevOf l i = q → okFrom q (m :: l.drop (i + 1)) = (okM m && (match q with | none => true | some q => decide (q < m.v)) && okFrom (some m.v) (l.drop (i + 1))) := fun q _ => rfl
        rw [key _ rfl] at hk
        have hp1 : prevOf l (i + 1) = some m.v := by simp [prevOf, hm]
        have fin : okM m = true → (match prevOf l i with | none => true | some q => decide (q < m.v)) = true → ∃ m0, m0 < n ∧ ∃ i_1, i_1 + m0 = l.length ∧ ((i + 1 : Nat) : Int) = (i_1 : Int) ∧ okFrom none l = okFrom (prevOf l i_1) (List.drop i_1 l) := by
          intro a b
          refine ⟨n - 1, by omega, i + 1, by omega, rfl, ?_⟩
          rw [hk, a, b, hp1]; rfl
        have bad : (okM m = false ∨ (match prevOf l i with | none => true | some q => decide (q < m.v)) = false) → (1 : Int) = if okT c l = true then 0 else 1 := by
          intro h
          rw [if_neg]
          unfold okT; rw [hk]
          rcases h with h | h <;> rw [h] <;> simp
        by_cases hi0 : i = 0
        · have hz : decide ((0 : Int) < (i : Int)) = false := by simp [hi0]
          have hpz : prevOf l i = none := by simp [prevOf, hi0]
          rw [hpz] at fin bad
          simp (implicitDefEqProofs := false) only [s1, s2, s3, s4, ltT hlt, encM_cut hm, encM_len, inc64 hlt hl, hz, go_sem, reduceCtorEq, rdA, rdM, rdL, rdT, rdE, rdN, ↓gTT, ↓gFF, ↓gTF, ↓gFT]
          clear hk key s1 s2 s3 s4
          repeat' (first | (with_reducible refine And.intro ?_ ?_) | (with_reducible refine gs_t ?_ ?_) | (with_reducible refine gs_f ?_ ?_) | (intro _) | ((with_reducible apply wCall_any); (· (simp (implicitDefEqProofs := false) only [go_sem, reduceCtorEq, rdA, rdM, rdL, rdT, rdE, rdN, ↓gTT, ↓gFF, ↓gTF, ↓gFT] <;> rfl)); (· (exact room_ok _ _ (by omega))); (· rfl); (· rfl); (· (first | exact Eq.refl true | exact Eq.refl false)); (simp (implicitDefEqProofs := false) only [inc64 hlt hl, go_sem, reduceCtorEq, rdA, rdM, rdL, rdT, rdE, rdN, ↓gTT, ↓gFF, ↓gTF, ↓gFT])) | fail)
          all_goals first
            | omega
            | (refine bad (.inl ?_); clear fin bad; first | (simp_all [okM]; done) | (simp_all [okM]; intros; omega))
            | (refine bad (.inr ?_); clear fin bad; first | (simp_all; done) | (simp_all; omega))
            | (refine fin ?_ ?_ <;> clear fin bad <;> first | rfl | (simp_all [okM]; done) | (simp_all [okM]; omega) | (simp_all; omega))
        · obtain ⟨j, hj⟩ : ∃ j, j + 1 = i := ⟨i - 1, by omega⟩
          obtain ⟨m', hm'⟩ : ∃ m', l[j]? = some m' := has (by omega)
          have hz : decide ((0 : Int) < (i : Int)) = true := by simp; omega
          have hw : IntKind.i64.wrap ((i : Int) - 1) = (j : Int) := by rw [i64 (by omega)]; omega
          have hpz : prevOf l i = some m'.v := by
            have : i - 1 = j := by omega
            simp [prevOf, hi0, this, hm']
          rw [hpz] at fin bad
          simp (implicitDefEqProofs := false) only [s1, s2, s3, s4, ltT hlt, encM_cut hm, encM_g0 hm', encM_len, inc64 hlt hl, hw, hz, go_sem, reduceCtorEq, rdA, rdM, rdL, rdT, rdE, rdN, ↓gTT, ↓gFF, ↓gTF, ↓gFT]
          clear hk key s1 s2 s3 s4
          repeat' (first | (with_reducible refine And.intro ?_ ?_) | (with_reducible refine gs_t ?_ ?_) | (with_reducible refine gs_f ?_ ?_) | (intro _) | ((with_reducible apply wCall_any); (· (simp (implicitDefEqProofs := false) only [go_sem, reduceCtorEq, rdA, rdM, rdL, rdT, rdE, rdN, ↓gTT, ↓gFF, ↓gTF, ↓gFT] <;> rfl)); (· (exact room_ok _ _ (by omega))); (· rfl); (· rfl); (· (first | exact Eq.refl true | exact Eq.refl false)); (simp (implicitDefEqProofs := false) only [inc64 hlt hl, go_sem, reduceCtorEq, rdA, rdM, rdL, rdT, rdE, rdN, ↓gTT, ↓gFF, ↓gTF, ↓gFT])) | fail)
          all_goals first
            | omega
            | (refine bad (.inl ?_); clear fin bad; first | (simp_all [okM]; done) | (simp_all [okM]; intros; omega))
            | (refine bad (.inr ?_); clear fin bad; first | (simp_all; done) | (simp_all; omega))
            | (refine fin ?_ ?_ <;> clear fin bad <;> first | rfl | (simp_all [okM]; done) | (simp_all [okM]; omega) | (simp_all; omega))
      · simp (implicitDefEqProofs := false) only [s1, s2, s3, s4, ltF hge, go_sem, reduceCtorEq, rdA, rdM, rdL, rdT, rdE, rdN, ↓gTT, ↓gFF, ↓gTF, ↓gFT]
        unfold okT
        rw [hk, List.drop_eq_nil_of_le hge, h1', show decide (l.length ≤ 40) = true by simpa using h2']; simp [okFrom]
  · rename_i h1; simp at h1; unfold okT; rw [if_neg]; simp [h1]
theorem wCall_pp {F : Tr Fd} {f : P} {args : List VV} {s : VSt} {K : VSt → VV → Prop} {r : VV} (ha : pureL args = true) (hp : VPure F f args r) (hr : pureV r = true) (hK : K s r) : wCall F f args s K :=
  wCall_pure (vwL_pure _ _ ha) hp hr (.inr ha) hK
theorem one_ok (k : Int) : VPure FT p51 [.int .i64 k] (.bool (oneB k)) := by
  refine vpure_of_body (f := p51) rfl rfl ?_
  simp (implicitDefEqProofs := false) only [go_sem, reduceCtorEq, rdA, rdM, rdL, rdT, rdE, rdN, ↓gTT, ↓gFF, ↓gTF, ↓gFT]
  unfold oneB
  refine gs_f (fun h => ?_) (fun h => ?_) <;> simp only [h] <;> simp
theorem right1_ok (x : Cons) (hx : x.t.l.length ≤ 4611686018427387904) : VPure FT p83 [.agg (cC x)] (.bool (!okC x)) := by
  refine vpure_of_body (f := p83) rfl rfl ?_
  simp (implicitDefEqProofs := false) only [go_sem, reduceCtorEq, rdA, rdM, rdL, rdT, rdE, rdN, ↓gTT, ↓gFF, ↓gTF, ↓gFT]
  repeat' (first | (with_reducible refine And.intro ?_ ?_) | (with_reducible refine gs_t ?_ ?_) | (with_reducible refine gs_f ?_ ?_) | (intro _) | ((with_reducible apply wCall_any); (· (simp (implicitDefEqProofs := false) only [go_sem, reduceCtorEq, rdA, rdM, rdL, rdT, rdE, rdN, ↓gTT, ↓gFF, ↓gTF, ↓gFT] <;> rfl)); (· (exact Check_ok _ _ hx)); (· rfl); (· rfl); (· (first | exact Eq.refl true | exact Eq.refl false)); (simp (implicitDefEqProofs := false) only [go_sem, reduceCtorEq, rdA, rdM, rdL, rdT, rdE, rdN, ↓gTT, ↓gFF, ↓gTF, ↓gFT])) | fail)
  unfold okC
  cases okT x.t.c x.t.l <;> rfl
theorem IndexC_ok (f : P) (cs : List VV) (p : Cons → Bool) (l : List Cons) (hl : l.length ≤ 4611686018427387904) (hcs : pureL cs = true) (hp : ∀ x ∈ l, VPure FT f (.agg (cC x) :: cs) (.bool (p x))) :
    VPure FT p106 [.fz l.length none 3 (encC l), .fn f cs] (.int .i64 (idxOf p l 0)) := by
  refine vpure_of_body (f := p106) rfl rfl ?_
  simp (implicitDefEqProofs := false) only [go_sem, reduceCtorEq, rdA, rdM, rdL, rdT, rdE, rdN, ↓gTT, ↓gFF, ↓gTF, ↓gFT]
  refine wLoop_by (fun n s => ∃ i : Nat, i + n = l.length ∧ At s [(p0, .fz l.length none 3 (encC l)), (p1, .fn f cs), (p7, .int .i64 l.length), (p8, .int .i64 i)] 0 0 [] ∧ idxOf p l 0 = idxOf p (l.drop i) i) l.length ?_ ?_
  · exact ⟨0, by simp, by simp (implicitDefEqProofs := false) only [go_sem, reduceCtorEq, rdA, rdM, rdL, rdT, rdE, rdN, ↓gTT, ↓gFF, ↓gTF, ↓gFT], by simp⟩
  · rintro n ⟨e, nx, w, h⟩ ⟨i, hi, ⟨⟨s1, s2, s3, s4, -⟩, rfl, rfl, rfl⟩, hk⟩
    rcases Nat.lt_or_ge i l.length with hlt | hge
    · obtain ⟨x, hx⟩ := has hlt
      rw [drop_cons hx] at hk
      simp (implicitDefEqProofs := false) only [s1, s2, s3, s4, ltT hlt, encC_cut hx, encC_len, inc64 hlt hl, go_sem, reduceCtorEq, rdA, rdM, rdL, rdT, rdE, rdN, ↓gTT, ↓gFF, ↓gTF, ↓gFT]
      refine ⟨⟨by omega, by omega⟩, by omega, ?_⟩
      refine wCall_pp (r := .bool (p x)) (by simp [pureL, pureV, hcs]) (hp x (List.mem_of_getElem? hx)) rfl ?_
      simp (implicitDefEqProofs := false) only [inc64 hlt hl, go_sem, reduceCtorEq, rdA, rdM, rdL, rdT, rdE, rdN, ↓gTT, ↓gFF, ↓gTF, ↓gFT]
      refine gs_t (fun h => ?_) (fun h => ?_)
      · rw [hk]; simp [idxOf, h]
      · refine ⟨n - 1, by omega, i + 1, by omega, rfl, ?_⟩
        rw [hk]; simp [idxOf, h]
    · simp (implicitDefEqProofs := false) only [s1, s2, s3, s4, ltF hge, go_sem, reduceCtorEq, rdA, rdM, rdL, rdT, rdE, rdN, ↓gTT, ↓gFF, ↓gTF, ↓gFT]
      rw [hk, List.drop_eq_nil_of_le hge]; rfl
theorem ContainsC_ok (f : P) (cs : List VV) (p : Cons → Bool) (l : List Cons) (hl : l.length ≤ 4611686018427387904) (hcs : pureL cs = true) (hp : ∀ x ∈ l, VPure FT f (.agg (cC x) :: cs) (.bool (p x))) :
    VPure FT p82 [.fz l.length none 3 (encC l), .fn f cs] (.bool (l.any p)) := by
  refine vpure_of_body (f := p82) rfl rfl ?_
  simp (implicitDefEqProofs := false) only [go_sem, reduceCtorEq, rdA, rdM, rdL, rdT, rdE, rdN, ↓gTT, ↓gFF, ↓gTF, ↓gFT]
  refine wCall_pp (r := .int .i64 (idxOf p l 0)) (by simp [pureL, pureV, hcs]) (IndexC_ok f cs p l hl hcs hp) rfl ?_
  simp (implicitDefEqProofs := false) only [go_sem, reduceCtorEq, rdA, rdM, rdL, rdT, rdE, rdN, ↓gTT, ↓gFF, ↓gTF, ↓gFT]
  exact idxOf_nonneg p l 0 (by omega)
structure smallC (l : List Cons) : Prop where
  len : l.length ≤ 100000
  all : ∀ x ∈ l, x.t.l.length ≤ 1000000
theorem right_ok (l : List Cons) (v : Int) (hl : smallC l) : VPure FT p50 [.fz l.length none 3 (encC l), .int .i64 v] (.bool (rightB l v)) := by
  refine vpure_of_body (f := p50) rfl rfl ?_
  simp (implicitDefEqProofs := false) only [go_sem, reduceCtorEq, rdA, rdM, rdL, rdT, rdE, rdN, ↓gTT, ↓gFF, ↓gTF, ↓gFT]
  repeat' (first | (with_reducible refine And.intro ?_ ?_) | (with_reducible refine gs_t ?_ ?_) | (with_reducible refine gs_f ?_ ?_) | (intro _) | ((with_reducible apply wCall_any); (· (simp (implicitDefEqProofs := false) only [go_sem, reduceCtorEq, rdA, rdM, rdL, rdT, rdE, rdN, ↓gTT, ↓gFF, ↓gTF, ↓gFT] <;> rfl)); (· (exact ContainsC_ok p83 [] (fun x => !okC x) l (by have := hl.len; omega) rfl (fun x hx => right1_ok x (by have := hl.all x hx; omega)))); (· rfl); (· rfl); (· (first | exact Eq.refl true | exact Eq.refl false)); (simp (implicitDefEqProofs := false) only [go_sem, reduceCtorEq, rdA, rdM, rdL, rdT, rdE, rdN, ↓gTT, ↓gFF, ↓gTF, ↓gFT])) | fail)
  all_goals unfold rightB
  all_goals first | (simp_all [List.any_eq_not_all_not]; done) | (simp_all [List.any_eq_not_all_not]; intros; omega)
theorem has1_ok (x : Cons) (v : Int) (hx : x.t.l.length ≤ 4611686018427387904) : VPure FT p107 [.agg (cC x), .fp [.int .i64 v] 0] (.bool (x.eq && decide (kOf x.t.l v ≠ 0))) := by
  refine vpure_of_body (f := p107) rfl rfl ?_
  simp (implicitDefEqProofs := false) only [go_sem, reduceCtorEq, rdA, rdM, rdL, rdT, rdE, rdN, ↓gTT, ↓gFF, ↓gTF, ↓gFT]
  repeat' (first | (with_reducible refine And.intro ?_ ?_) | (with_reducible refine gs_t ?_ ?_) | (with_reducible refine gs_f ?_ ?_) | (intro _) | ((with_reducible apply wCall_any); (· (simp (implicitDefEqProofs := false) only [go_sem, reduceCtorEq, rdA, rdM, rdL, rdT, rdE, rdN, ↓gTT, ↓gFF, ↓gTF, ↓gFT] <;> rfl)); (· (exact K_ok _ _ _ hx)); (· rfl); (· rfl); (· (first | exact Eq.refl true | exact Eq.refl false)); (simp (implicitDefEqProofs := false) only [go_sem, reduceCtorEq, rdA, rdM, rdL, rdT, rdE, rdN, ↓gTT, ↓gFF, ↓gTF, ↓gFT])) | fail)
  all_goals simp_all
theorem has_ok (l : List Cons) (v : Int) (hl : smallC l) : VPure FT p84 [.fz l.length none 3 (encC l), .int .i64 v] (.bool (hasB l v)) := by
  refine vpure_of_body (f := p84) rfl rfl ?_
  simp (implicitDefEqProofs := false) only [go_sem, reduceCtorEq, rdA, rdM, rdL, rdT, rdE, rdN, ↓gTT, ↓gFF, ↓gTF, ↓gFT]
  repeat' (first | (with_reducible refine And.intro ?_ ?_) | (with_reducible refine gs_t ?_ ?_) | (with_reducible refine gs_f ?_ ?_) | (intro _) | ((with_reducible apply wCall_any); (· (simp (implicitDefEqProofs := false) only [go_sem, reduceCtorEq, rdA, rdM, rdL, rdT, rdE, rdN, ↓gTT, ↓gFF, ↓gTF, ↓gFT] <;> rfl)); (· (exact ContainsC_ok p107 [.fp [.int .i64 v] 0] (fun x => x.eq && decide (kOf x.t.l v ≠ 0)) l (by have := hl.len; omega) rfl (fun x hx => has1_ok x v (by have := hl.all x hx; omega)))); (· rfl); (· rfl); (· (first | exact Eq.refl true | exact Eq.refl false)); (simp (implicitDefEqProofs := false) only [go_sem, reduceCtorEq, rdA, rdM, rdL, rdT, rdE, rdN, ↓gTT, ↓gFF, ↓gTF, ↓gFT])) | fail)
  rfl
theorem may_ok (l : List Cons) (v : Int) (hl : smallC l) : VPure FT p52 [.fz l.length none 3 (encC l), .int .i64 v] (.int .i64 (mayE l v)) := by
  refine vpure_of_body (f := p52) rfl rfl ?_
  simp (implicitDefEqProofs := false) only [go_sem, reduceCtorEq, rdA, rdM, rdL, rdT, rdE, rdN, ↓gTT, ↓gFF, ↓gTF, ↓gFT]
  repeat' (first | (with_reducible refine And.intro ?_ ?_) | (with_reducible refine gs_t ?_ ?_) | (with_reducible refine gs_f ?_ ?_) | (intro _) | ((with_reducible apply wCall_any); (· (simp (implicitDefEqProofs := false) only [go_sem, reduceCtorEq, rdA, rdM, rdL, rdT, rdE, rdN, ↓gTT, ↓gFF, ↓gTF, ↓gFT] <;> rfl)); (· (first | exact right_ok l v hl | exact has_ok l v hl)); (· rfl); (· rfl); (· (first | exact Eq.refl true | exact Eq.refl false)); (simp (implicitDefEqProofs := false) only [go_sem, reduceCtorEq, rdA, rdM, rdL, rdT, rdE, rdN, ↓gTT, ↓gFF, ↓gTF, ↓gFT])) | fail)
  all_goals unfold mayE
  all_goals first | rfl | (simp_all; done)
def lowsOf (l : List Cons) (v : Int) : List Cons := l.filter fun x => decide (kOf x.t.l v < 0)
def highsOf (l : List Cons) (v : Int) : List Cons := l.filter fun x => decide (0 < kOf x.t.l v)
def othersOf (l : List Cons) (v : Int) : List Cons := l.filter fun x => decide (kOf x.t.l v = 0)
theorem parts_ok (l : List Cons) (v : Int) (hl : smallC l) : VPure FT p53 [.fz l.length none 3 (encC l), .int .i64 v] (.tup [vCs (lowsOf l v), vCs (highsOf l v), vCs (othersOf l v)]) := by
  refine vpure_of_body (f := p53) rfl rfl ?_
  simp (implicitDefEqProofs := false) only [go_sem, reduceCtorEq, rdA, rdM, rdL, rdT, rdE, rdN, ↓gTT, ↓gFF, ↓gTF, ↓gFT]
  refine wLoop_own p4 3 (by simp (implicitDefEqProofs := false) only [go_sem, reduceCtorEq, rdA, rdM, rdL, rdT, rdE, rdN, ↓gTT, ↓gFF, ↓gTF, ↓gFT]) ?_
  refine wLoop_own p5 3 (by simp (implicitDefEqProofs := false) only [go_sem, reduceCtorEq, rdA, rdM, rdL, rdT, rdE, rdN, ↓gTT, ↓gFF, ↓gTF, ↓gFT]) ?_
  refine wLoop_own p6 3 (by simp (implicitDefEqProofs := false) only [go_sem, reduceCtorEq, rdA, rdM, rdL, rdT, rdE, rdN, ↓gTT, ↓gFF, ↓gTF, ↓gFT]) ?_
  refine wLoop_dr (fun n s => ∃ i m : Nat, i + n = l.length ∧ At s [(p1, .int .i64 v), (p4, .ow 0 (lowsOf (l.take i) v).length 3), (p5, .ow 1 (highsOf (l.take i) v).length 3), (p6, .ow 2 (othersOf (l.take i) v).length 3), (p10, .fz l.length none 3 (encC l)), (p11, .int .i64 l.length), (p12, .int .i64 i)] (m + 3) 0
    [(2, .row (encC (othersOf (l.take i) v))), (1, .row (encC (highsOf (l.take i) v))), (0, .row (encC (lowsOf (l.take i) v)))]) l.length ?_ ?_
  · exact ⟨0, 0, by simp, by simp (implicitDefEqProofs := false) only [go_sem, reduceCtorEq, rdA, rdM, rdL, rdT, rdE, rdN, ↓gTT, ↓gFF, ↓gTF, ↓gFT]; simp [lowsOf, highsOf, othersOf, encC]⟩
  · rintro n ⟨e, nx, w, h⟩ ⟨i, m, hi, ⟨s1, s2, s3, s4, s5, s6, s7, -⟩, rfl, rfl, rfl⟩
    rcases Nat.lt_or_ge i l.length with hlt | hge
    · obtain ⟨x, hx⟩ := has hlt
      have hll := hl.len
      have hxl := hl.all x (List.mem_of_getElem? hx)
      have b1 : (lowsOf (l.take i) v).length ≤ i := Nat.le_trans (List.length_filter_le _ _) (List.length_take_le _ _)
      have b2 : (highsOf (l.take i) v).length ≤ i := Nat.le_trans (List.length_filter_le _ _) (List.length_take_le _ _)
      have b3 : (othersOf (l.take i) v).length ≤ i := Nat.le_trans (List.length_filter_le _ _) (List.length_take_le _ _)
      simp (implicitDefEqProofs := false) only [s1, s2, s3, s4, s5, s6, s7, ltT hlt, encC_cut hx, encC_len, inc64 hlt (by omega : l.length ≤ 4611686018427387904), go_sem, reduceCtorEq, rdA, rdM, rdL, rdT, rdE, rdN, ↓gTT, ↓gFF, ↓gTF, ↓gFT]
      repeat' (first | (with_reducible refine And.intro ?_ ?_) | (with_reducible refine gs_t ?_ ?_) | (with_reducible refine gs_f ?_ ?_) | (intro _) | ((with_reducible apply wCall_any); (· (simp (implicitDefEqProofs := false) only [go_sem, reduceCtorEq, rdA, rdM, rdL, rdT, rdE, rdN, ↓gTT, ↓gFF, ↓gTF, ↓gFT] <;> rfl)); (· (exact K_ok _ _ _ (by omega : x.t.l.length ≤ 4611686018427387904))); (· rfl); (· rfl); (· (first | exact Eq.refl true | exact Eq.refl false)); (simp (implicitDefEqProofs := false) only [encC_len, inc64 hlt (by omega : l.length ≤ 4611686018427387904), go_sem, reduceCtorEq, rdA, rdM, rdL, rdT, rdE, rdN, ↓gTT, ↓gFF, ↓gTF, ↓gFT])) | fail)
      all_goals (clear s1 s2 s3 s4 s5 s6 s7; try omega)
      all_goals
        have ht := take_snoc hx
        have hk : (decide (kOf x.t.l v < 0) = true ∧ decide (0 < kOf x.t.l v) = false ∧ decide (kOf x.t.l v = 0) = false) ∨ (decide (kOf x.t.l v < 0) = false ∧ decide (0 < kOf x.t.l v) = true ∧ decide (kOf x.t.l v = 0) = false) ∨
            (decide (kOf x.t.l v < 0) = false ∧ decide (0 < kOf x.t.l v) = false ∧ decide (kOf x.t.l v = 0) = true) := by
          simp only [decide_eq_true_eq, decide_eq_false_iff_not]; omega
        refine ⟨n - 1, by omega, _, subH_tail (by simp [hget]), i + 1, m + 1, by omega, ?_, rfl, ?_⟩
        · rcases hk with ⟨e1, e2, e3⟩ | ⟨e1, e2, e3⟩ | ⟨e1, e2, e3⟩ <;> simp_all [lowsOf, highsOf, othersOf, List.filter_append]
        · rcases hk with ⟨e1, e2, e3⟩ | ⟨e1, e2, e3⟩ | ⟨e1, e2, e3⟩ <;> simp_all [lowsOf, highsOf, othersOf, List.filter_append, encC_app, encC, vMs]
    · simp (implicitDefEqProofs := false) only [s1, s2, s3, s4, s5, s6, s7, ltF hge, encC_len, go_sem, reduceCtorEq, rdA, rdM, rdL, rdT, rdE, rdN, ↓gTT, ↓gFF, ↓gTF, ↓gFT]
      rw [List.take_of_length_le hge]
theorem all1_ok (x : Cons) (v k : Int) (hx : x.t.l.length ≤ 1000000) : VPure FT p87 [.agg (cC x), .fp [.int .i64 v] 0, .fp [.int .i64 k] 0] (.bool (decide (kOf x.t.l v ≠ k))) := by
  refine vpure_of_body (f := p87) rfl rfl ?_
  simp (implicitDefEqProofs := false) only [go_sem, reduceCtorEq, rdA, rdM, rdL, rdT, rdE, rdN, ↓gTT, ↓gFF, ↓gTF, ↓gFT]
  repeat' (first | (with_reducible refine And.intro ?_ ?_) | (with_reducible refine gs_t ?_ ?_) | (with_reducible refine gs_f ?_ ?_) | (intro _) | ((with_reducible apply wCall_any); (· (simp (implicitDefEqProofs := false) only [go_sem, reduceCtorEq, rdA, rdM, rdL, rdT, rdE, rdN, ↓gTT, ↓gFF, ↓gTF, ↓gFT] <;> rfl)); (· (exact K_ok _ _ _ (by omega))); (· rfl); (· rfl); (· (first | exact Eq.refl true | exact Eq.refl false)); (simp (implicitDefEqProofs := false) only [go_sem, reduceCtorEq, rdA, rdM, rdL, rdT, rdE, rdN, ↓gTT, ↓gFF, ↓gTF, ↓gFT])) | fail)
  all_goals simp_all
theorem all_ok (l : List Cons) (v k : Int) (hl : smallC l) : VPure FT p58 [.fz l.length none 3 (encC l), .int .i64 v, .int .i64 k] (.bool (l.all fun x => decide (kOf x.t.l v = k))) := by
  refine vpure_of_body (f := p58) rfl rfl ?_
  simp (implicitDefEqProofs := false) only [go_sem, reduceCtorEq, rdA, rdM, rdL, rdT, rdE, rdN, ↓gTT, ↓gFF, ↓gTF, ↓gFT]
  repeat' (first | (with_reducible refine And.intro ?_ ?_) | (with_reducible refine gs_t ?_ ?_) | (with_reducible refine gs_f ?_ ?_) | (intro _) | ((with_reducible apply wCall_any); (· (simp (implicitDefEqProofs := false) only [go_sem, reduceCtorEq, rdA, rdM, rdL, rdT, rdE, rdN, ↓gTT, ↓gFF, ↓gTF, ↓gFT] <;> rfl)); (· (exact ContainsC_ok p87 [.fp [.int .i64 v] 0, .fp [.int .i64 k] 0] (fun x => decide (kOf x.t.l v ≠ k)) l (by have := hl.len; omega) rfl (fun x hx => all1_ok x v k (hl.all x hx)))); (· rfl); (· rfl); (· (first | exact Eq.refl true | exact Eq.refl false)); (simp (implicitDefEqProofs := false) only [go_sem, reduceCtorEq, rdA, rdM, rdL, rdT, rdE, rdN, ↓gTT, ↓gFF, ↓gTF, ↓gFT])) | fail)
  simp [List.any_eq_not_all_not]
def exactB (l : List Cons) (v : Int) : Bool := (lowsOf l v).all (fun x => decide (kOf x.t.l v = -1)) || (highsOf l v).all (fun x => decide (kOf x.t.l v = 1))
theorem smallC.filter {l : List Cons} (h : smallC l) (p : Cons → Bool) : smallC (l.filter p) :=
  ⟨Nat.le_trans (List.length_filter_le _ _) h.len, fun x hx => h.all x (List.mem_filter.1 hx).1⟩
theorem smallC.lows {l : List Cons} (h : smallC l) (v : Int) : smallC (lowsOf l v) := h.filter _
theorem smallC.highs {l : List Cons} (h : smallC l) (v : Int) : smallC (highsOf l v) := h.filter _
theorem smallC.others {l : List Cons} (h : smallC l) (v : Int) : smallC (othersOf l v) := h.filter _
theorem Exact_ok (l : List Cons) (v : Int) (hl : smallC l) : VPure FT p24 [.fz l.length none 3 (encC l), .int .i64 v] (.tup [.bool (if mayE l v = 0 then exactB l v else false), .int .i64 (mayE l v)]) := by
  refine vpure_of_body (f := p24) rfl rfl ?_
  simp (implicitDefEqProofs := false) only [go_sem, reduceCtorEq, rdA, rdM, rdL, rdT, rdE, rdN, ↓gTT, ↓gFF, ↓gTF, ↓gFT]
  repeat' (first | (with_reducible refine And.intro ?_ ?_) | (with_reducible refine gs_t ?_ ?_) | (with_reducible refine gs_f ?_ ?_) | (intro _) | ((with_reducible apply wCall_any); (· (simp (implicitDefEqProofs := false) only [go_sem, reduceCtorEq, rdA, rdM, rdL, rdT, rdE, rdN, ↓gTT, ↓gFF, ↓gTF, ↓gFT] <;> rfl)); (· (first | exact may_ok l v hl | exact parts_ok l v hl | exact all_ok (lowsOf l v) v (-1) (hl.lows v) | exact all_ok (highsOf l v) v 1 (hl.highs v))); (· rfl); (· rfl); (· (first | exact Eq.refl true | exact Eq.refl false)); (simp (implicitDefEqProofs := false) only [go_sem, reduceCtorEq, rdA, rdM, rdL, rdT, rdE, rdN, ↓gTT, ↓gFF, ↓gTF, ↓gFT])) | fail)
  all_goals
    rename_i h1
    first
      | (simp_all [exactB]; done)
      | (rename_i h0; have h0' : mayE l v = 0 := by simpa using h0
         unfold exactB; rw [if_pos h0', h1, h0']; rfl)
theorem Pick_ok (lo hi : Int) : VPure FT p35 [.int .i64 lo, .int .i64 hi] (.tup [.int .i64 (if hi < lo then 0 else min (max 0 lo) hi), .bool (decide (lo ≤ hi))]) := by
  refine vpure_of_body (f := p35) rfl rfl ?_
  simp (implicitDefEqProofs := false) only [go_sem, reduceCtorEq, rdA, rdM, rdL, rdT, rdE, rdN, ↓gTT, ↓gFF, ↓gTF, ↓gFT]
  repeat' (first | (with_reducible refine And.intro ?_ ?_) | (with_reducible refine gs_t ?_ ?_) | (with_reducible refine gs_f ?_ ?_) | (intro _) | ((with_reducible apply wCall_any); (· (simp (implicitDefEqProofs := false) only [go_sem, reduceCtorEq, rdA, rdM, rdL, rdT, rdE, rdN, ↓gTT, ↓gFF, ↓gTF, ↓gFT] <;> rfl)); (· (exact may_ok [] 0 ⟨by simp, by simp⟩)); (· rfl); (· rfl); (· (first | exact Eq.refl true | exact Eq.refl false)); (simp (implicitDefEqProofs := false) only [go_sem, reduceCtorEq, rdA, rdM, rdL, rdT, rdE, rdN, ↓gTT, ↓gFF, ↓gTF, ↓gFT])) | fail)
  all_goals simp_all
  all_goals omega
theorem Line_ok (v k c : Int) : VPure FT p48 [.int .i64 v, .int .i64 k, .int .i64 c] (.agg (cT ⟨c, [⟨v, k⟩]⟩)) := by
  refine vpure_of_body (f := p48) rfl rfl ?_
  simp (implicitDefEqProofs := false) only [go_sem, reduceCtorEq, rdA, rdM, rdL, rdT, rdE, rdN, ↓gTT, ↓gFF, ↓gTF, ↓gFT]
  all_goals first | rfl
def unitM : List Mono → Option Int
  | [] => none
  | m :: l => if oneB m.k = true then some m.v else unitM l
def unitX (x : Cons) : Option Int := if x.eq = true then unitM x.t.l else none
def unitOf : List Cons → Int → Option (Int × Int)
  | [], _ => none
  | x :: l, i => match unitX x with | some v => some (i, v) | none => unitOf l (i + 1)
def unitV (l : List Cons) : VV := if rightB l 0 = true then (match unitOf l 0 with | some (i, v) => .tup [.int .i64 i, .int .i64 v, .int .i64 0] | none => .tup [.int .i64 0, .int .i64 0, .int .i64 5]) else .tup [.int .i64 0, .int .i64 0, .int .i64 1]
theorem Unit_ok (l : List Cons) (hl : smallC l) : VPure FT p17 [.fz l.length none 3 (encC l)] (unitV l) := by
  refine vpure_of_body (f := p17) rfl rfl ?_
  simp (implicitDefEqProofs := false) only [go_sem, reduceCtorEq, rdA, rdM, rdL, rdT, rdE, rdN, ↓gTT, ↓gFF, ↓gTF, ↓gFT]
  repeat' (first | (with_reducible refine And.intro ?_ ?_) | (with_reducible refine gs_t ?_ ?_) | (with_reducible refine gs_f ?_ ?_) | (intro _) | ((with_reducible apply wCall_any); (· (simp (implicitDefEqProofs := false) only [go_sem, reduceCtorEq, rdA, rdM, rdL, rdT, rdE, rdN, ↓gTT, ↓gFF, ↓gTF, ↓gFT] <;> rfl)); (· (exact right_ok l 0 hl)); (· rfl); (· rfl); (· (first | exact Eq.refl true | exact Eq.refl false)); (simp (implicitDefEqProofs := false) only [go_sem, reduceCtorEq, rdA, rdM, rdL, rdT, rdE, rdN, ↓gTT, ↓gFF, ↓gTF, ↓gFT])) | fail)
  · rename_i hr
    have hr' : rightB l 0 = false := by simpa using hr
    unfold unitV; rw [hr']; rfl
  · rename_i hr
    have hr' : rightB l 0 = true := by simpa using hr
    have hll := hl.len
    refine wLoop_by (fun n s => ∃ i : Nat, i + n = l.length ∧ At s [(p12, .fz l.length none 3 (encC l)), (p13, .int .i64 l.length), (p14, .int .i64 i)] 0 0 [] ∧ unitOf l 0 = unitOf (l.drop i) i) l.length ?_ ?_
    · exact ⟨0, by simp, by simp (implicitDefEqProofs := false) only [go_sem, reduceCtorEq, rdA, rdM, rdL, rdT, rdE, rdN, ↓gTT, ↓gFF, ↓gTF, ↓gFT], by simp⟩
    · rintro n ⟨e, nx, w, h⟩ ⟨i, hi, ⟨⟨s1, s2, s3, -⟩, rfl, rfl, rfl⟩, hk⟩
      rcases Nat.lt_or_ge i l.length with hlt | hge
      · obtain ⟨x, hx⟩ := has hlt
        have hxl := hl.all x (List.mem_of_getElem? hx)
        rw [drop_cons hx] at hk
        simp (implicitDefEqProofs := false) only [s1, s2, s3, ltT hlt, encC_cut hx, encC_len, inc64 hlt (by omega : l.length ≤ 4611686018427387904), go_sem, reduceCtorEq, rdA, rdM, rdL, rdT, rdE, rdN, ↓gTT, ↓gFF, ↓gTF, ↓gFT]
        refine ⟨⟨by omega, by omega⟩, by omega, ?_⟩
        refine wLoop_by (fun n s => ∃ j : Nat, j + n = x.t.l.length ∧ At s [(p5, .int .i64 i), (p6, .var (cC x)), (p12, .fz l.length none 3 (encC l)), (p13, .int .i64 l.length), (p14, .int .i64 i), (p21, .fz x.t.l.length none 2 (encM x.t.l)), (p22, .int .i64 x.t.l.length), (p23, .int .i64 j)] 0 0 [] ∧
          unitX x = if x.eq = true then unitM (x.t.l.drop j) else none) x.t.l.length ?_ ?_
        · exact ⟨0, by simp, by simp (implicitDefEqProofs := false) only [go_sem, reduceCtorEq, rdA, rdM, rdL, rdT, rdE, rdN, ↓gTT, ↓gFF, ↓gTF, ↓gFT], by simp [unitX]⟩
        · rintro n' ⟨e', nx, w, h⟩ ⟨j, hj, ⟨⟨a1, a2, a3, a4, a5, a6, a7, a8, -⟩, rfl, rfl, rfl⟩, hkj⟩
          rcases Nat.lt_or_ge j x.t.l.length with hjlt | hjge
          · obtain ⟨m, hm⟩ := has hjlt
            rw [drop_cons hm] at hkj
            simp (implicitDefEqProofs := false) only [a1, a2, a3, a4, a5, a6, a7, a8, ltT hjlt, encM_cut hm, encM_len, inc64 hjlt (by omega : x.t.l.length ≤ 4611686018427387904), go_sem, reduceCtorEq, rdA, rdM, rdL, rdT, rdE, rdN, ↓gTT, ↓gFF, ↓gTF, ↓gFT]
            repeat' (first | (with_reducible refine And.intro ?_ ?_) | (with_reducible refine gs_t ?_ ?_) | (with_reducible refine gs_f ?_ ?_) | (intro _) | ((with_reducible apply wCall_any); (· (simp (implicitDefEqProofs := false) only [go_sem, reduceCtorEq, rdA, rdM, rdL, rdT, rdE, rdN, ↓gTT, ↓gFF, ↓gTF, ↓gFT] <;> rfl)); (· (exact one_ok _)); (· rfl); (· rfl); (· (first | exact Eq.refl true | exact Eq.refl false)); (simp (implicitDefEqProofs := false) only [inc64 hjlt (by omega : x.t.l.length ≤ 4611686018427387904), go_sem, reduceCtorEq, rdA, rdM, rdL, rdT, rdE, rdN, ↓gTT, ↓gFF, ↓gTF, ↓gFT])) | fail)
            all_goals (clear s1 s2 s3 a1 a2 a3 a4 a5 a6 a7 a8; try omega)
            · rename_i h1 h2
              have hu : unitOf l 0 = some ((i : Int), m.v) := by rw [hk]; simp [unitOf, hkj, h1, unitM, h2]
              unfold unitV; rw [if_pos hr', hu]
            · rename_i h1 h2
              refine ⟨n' - 1, by omega, j + 1, by omega, rfl, ?_⟩
              rw [hkj, h1]; simp [unitM, h2]
            · rename_i h1
              refine ⟨n' - 1, by omega, j + 1, by omega, rfl, ?_⟩
              rw [hkj, h1]; simp
          · simp (implicitDefEqProofs := false) only [a1, a2, a3, a4, a5, a6, a7, a8, ltF hjge, inc64 hlt (by omega : l.length ≤ 4611686018427387904), go_sem, reduceCtorEq, rdA, rdM, rdL, rdT, rdE, rdN, ↓gTT, ↓gFF, ↓gTF, ↓gFT]
            refine ⟨n - 1, by omega, i + 1, by omega, rfl, ?_⟩
            rw [hk]
            have : unitX x = none := by rw [hkj, List.drop_eq_nil_of_le hjge]; simp [unitM]
            simp [unitOf, this]
      · simp (implicitDefEqProofs := false) only [s1, s2, s3, ltF hge, go_sem, reduceCtorEq, rdA, rdM, rdL, rdT, rdE, rdN, ↓gTT, ↓gFF, ↓gTF, ↓gFT]
        unfold unitV
        rw [if_pos hr', hk, List.drop_eq_nil_of_le hge]; rfl
theorem eRetK_n (rs : List Rs) (R : VV → Nat → VHp → Prop) (s : VSt) : retK rs R .norm s = match vres rs s with | some r => R r s.nx s.h | none => False := rfl
theorem eRetK_r (rs : List Rs) (R : VV → Nat → VHp → Prop) (s : VSt) : retK rs R .ret s = match vres rs s with | some r => R r s.nx s.h | none => False := rfl
def growR (b : Nat) (r : VV) (nx : Nat) (h : VHp) : Prop := (r = .nils ∧ h = []) ∨ (r = .ow (b + 1) 0 3 ∧ h = [(b + 1, .row [])] ∧ nx = b + 2)
theorem Grow_ok (b : Nat) (n : Int) (hn : 0 ≤ n ∧ n ≤ 2000000) : FSem FT p88 [.nils, .int .i64 n] b [] (growR b) := by
  refine fsem_of_body (f := p88) rfl rfl ?_
  have h1 : IntKind.i64.wrap (n - 0) = n := by rw [Int.sub_zero, i64 (by omega)]
  have h2 : IntKind.i64.wrap ((0 : Int) - 0) = 0 := rfl
  have h3 : decide (n < 0) = false := by simp; omega
  have h4 : (reps' [.int .i64 0, .nils, .bool false] n.toNat).length = n.toNat * 3 := by unfold reps'; rw [reps_len]; rfl
  have h5 : b ≠ b + 1 := by omega
  have h6 : vsub (reps' [.int .i64 0, .nils, .bool false] n.toNat) 3 0 0 = [] := by simp [vsub]
  simp (implicitDefEqProofs := false) only [h1, h2, h3, h4, h6, eRetK_n, eRetK_r, Int.toNat_zero, Nat.sub_self, go_sem, reduceCtorEq, rdA, rdM, rdL, rdT, rdE, rdN, ↓gTT, ↓gFF, ↓gTF, ↓gFT]
  refine gs_t (fun h => ?_) (fun h => ?_)
  · refine ⟨by omega, by omega, by omega, .inr ⟨rfl, ?_, rfl⟩⟩
    simp
  · exact .inl ⟨rfl, rfl⟩
def sizeAt (a b : List Cons) (i : Nat) : Nat := match i with | 0 => 0 | 1 => a.length | _ => a.length + b.length
def catAt (a b : List Cons) (i : Nat) : List Cons := match i with | 0 => [] | 1 => a | _ => a ++ b
theorem Concat_ok (a b : List Cons) (ha : a.length ≤ 1000000) (hb : b.length ≤ 1000000) : VPure FT p59 [.fz 2 none 1 [.fz a.length none 3 (encC a), .fz b.length none 3 (encC b)]] (.fz (a ++ b).length none 3 (encC (a ++ b))) := by
  refine vpure_of_body (f := p59) rfl rfl ?_
  simp (implicitDefEqProofs := false) only [go_sem, reduceCtorEq, rdA, rdM, rdL, rdT, rdE, rdN, ↓gTT, ↓gFF, ↓gTF, ↓gFT]
  refine wLoop_by (fun n s => ∃ i : Nat, i + n = 2 ∧ At s [(p0, .fz 2 none 1 [.fz a.length none 3 (encC a), .fz b.length none 3 (encC b)]), (p3, .int .i64 (sizeAt a b i)), (p9, .fz 2 none 1 [.fz a.length none 3 (encC a), .fz b.length none 3 (encC b)]), (p10, .int .i64 2), (p11, .int .i64 i)] 0 0 []) 2 ?_ ?_
  · exact ⟨0, by simp, by simp (implicitDefEqProofs := false) only [go_sem, reduceCtorEq, rdA, rdM, rdL, rdT, rdE, rdN, ↓gTT, ↓gFF, ↓gTF, ↓gFT]; simp [sizeAt]⟩
  · rintro n ⟨e, nx, w, h⟩ ⟨i, hi, ⟨s1, s2, s3, s4, s5, -⟩, rfl, rfl, rfl⟩
    have hi3 : i = 0 ∨ i = 1 ∨ i = 2 := by omega
    rcases hi3 with rfl | rfl | rfl
    · have h1 : decide (((0 : Nat) : Int) < 2) = true := rfl
      have h1' : decide ((0 : Int) < 2) = true := rfl
      have h2 : IntKind.i64.wrap ((sizeAt a b 0 : Int) + (a.length : Int)) = (sizeAt a b 1 : Nat) := by simp only [sizeAt]; rw [i64 (by omega)]; omega
      have h3 : decide (((sizeAt a b 1 : Nat) : Int) < 0) = false := by simp
      have h4 : IntKind.i64.wrap ((0 : Int) + 1) = 1 := rfl
      have h5 : (0 : Int).toNat = 0 := rfl
      simp (implicitDefEqProofs := false) only [s1, s2, s3, s4, s5, h1, h1', h2, h3, h4, h5, go_sem, reduceCtorEq, rdA, rdM, rdL, rdT, rdE, rdN, ↓gTT, ↓gFF, ↓gTF, ↓gFT]
      exact ⟨⟨by omega, by omega⟩, 1, by omega, 1, by omega, rfl, rfl⟩
    · have h1 : decide ((1 : Int) < 2) = true := rfl
      have h2 : IntKind.i64.wrap ((sizeAt a b 1 : Int) + (b.length : Int)) = (sizeAt a b 2 : Nat) := by simp only [sizeAt]; rw [i64 (by omega)]; omega
      have h3 : decide (((sizeAt a b 2 : Nat) : Int) < 0) = false := by simp
      have h4 : IntKind.i64.wrap ((1 : Int) + 1) = 2 := rfl
      have h5 : (1 : Int).toNat = 1 := rfl
      simp (implicitDefEqProofs := false) only [s1, s2, s3, s4, s5, h1, h2, h3, h4, h5, go_sem, reduceCtorEq, rdA, rdM, rdL, rdT, rdE, rdN, ↓gTT, ↓gFF, ↓gTF, ↓gFT]
      exact ⟨⟨by omega, by omega⟩, 0, by omega, 2, by omega, rfl, rfl⟩
    · have h1 : decide ((2 : Int) < 2) = false := rfl
      have hs2 : (sizeAt a b 2 : Int) = a.length + b.length := by simp [sizeAt]
      simp (implicitDefEqProofs := false) only [s1, s2, s3, s4, s5, h1, go_sem, reduceCtorEq, rdA, rdM, rdL, rdT, rdE, rdN, ↓gTT, ↓gFF, ↓gTF, ↓gFT]
      refine wCall_heap (Grow_ok 0 _ ⟨by omega, by omega⟩) (fun k o h => (by cases h)) (fun r nx' h' hr => ?_) (fun r nx' h' hr hnx => ?_)
      · rcases hr with ⟨rfl, rfl⟩ | ⟨rfl, rfl, rfl⟩
        · exact ⟨fun k hk => (by cases hk), fun k o h => (by cases h)⟩
        · refine ⟨fun k hk => by simpa [keysV, hkeys] using hk, fun k o h => ?_⟩
          simp only [hget] at h
          split at h
          · cases h; intro k hk; cases hk
          · cases h
      · rcases hr with ⟨rfl, rfl⟩ | ⟨rfl, rfl, rfl⟩
        · simp (implicitDefEqProofs := false) only [go_sem, reduceCtorEq, rdA, rdM, rdL, rdT, rdE, rdN, ↓gTT, ↓gFF, ↓gTF, ↓gFT]
          refine wLoop_own p6 3 (by simp (implicitDefEqProofs := false) only [go_sem, reduceCtorEq, rdA, rdM, rdL, rdT, rdE, rdN, ↓gTT, ↓gFF, ↓gTF, ↓gFT]) ?_
          simp (implicitDefEqProofs := false) only [go_sem, reduceCtorEq, rdA, rdM, rdL, rdT, rdE, rdN, ↓gTT, ↓gFF, ↓gTF, ↓gFT]
          refine wLoop_by (fun n s => ∃ i : Nat, i + n = 2 ∧ At s [(p6, .ow nx' (catAt a b i).length 3), (p25, .fz 2 none 1 [.fz a.length none 3 (encC a), .fz b.length none 3 (encC b)]), (p26, .int .i64 2), (p27, .int .i64 i)] (nx' + 1) 0 [(nx', .row (encC (catAt a b i)))]) 2 ?_ ?_
          · exact ⟨0, by simp, by simp (implicitDefEqProofs := false) only [go_sem, reduceCtorEq, rdA, rdM, rdL, rdT, rdE, rdN, ↓gTT, ↓gFF, ↓gTF, ↓gFT]; simp [catAt, encC]⟩
          · rintro n ⟨e, nx, w, h⟩ ⟨i, hi, ⟨s1, s2, s3, s4, -⟩, rfl, rfl, rfl⟩
            have hi3 : i = 0 ∨ i = 1 ∨ i = 2 := by omega
            rcases hi3 with rfl | rfl | rfl
            · have h1 : decide ((0 : Int) < 2) = true := rfl
              have h4 : IntKind.i64.wrap ((0 : Int) + 1) = 1 := rfl
              have h5 : (0 : Int).toNat = 0 := rfl
              simp (implicitDefEqProofs := false) only [s1, s2, s3, s4, h1, h4, h5, encC_len, catAt, encC, go_sem, reduceCtorEq, rdA, rdM, rdL, rdT, rdE, rdN, ↓gTT, ↓gFF, ↓gTF, ↓gFT]
              repeat' (first | (with_reducible refine And.intro ?_ ?_) | (with_reducible refine gs_t ?_ ?_) | (with_reducible refine gs_f ?_ ?_) | (intro _) | fail)
              all_goals first | omega | (refine ⟨1, by omega, 1, by omega, ?_⟩; simp [catAt]) | (simp; done)
            · have h1 : decide ((1 : Int) < 2) = true := rfl
              have h4 : IntKind.i64.wrap ((1 : Int) + 1) = 2 := rfl
              have h5 : (1 : Int).toNat = 1 := rfl
              simp (implicitDefEqProofs := false) only [s1, s2, s3, s4, h1, h4, h5, encC_len, catAt, go_sem, reduceCtorEq, rdA, rdM, rdL, rdT, rdE, rdN, ↓gTT, ↓gFF, ↓gTF, ↓gFT]
              repeat' (first | (with_reducible refine And.intro ?_ ?_) | (with_reducible refine gs_t ?_ ?_) | (with_reducible refine gs_f ?_ ?_) | (intro _) | fail)
              all_goals first | omega | (refine ⟨0, by omega, 2, by omega, ?_⟩; simp [catAt, encC_app]) | (simp; done)
            · have h1 : decide ((2 : Int) < 2) = false := rfl
              simp (implicitDefEqProofs := false) only [s1, s2, s3, s4, h1, encC_len, catAt, go_sem, reduceCtorEq, rdA, rdM, rdL, rdT, rdE, rdN, ↓gTT, ↓gFF, ↓gTF, ↓gFT]
        · simp (implicitDefEqProofs := false) only [go_sem, reduceCtorEq, rdA, rdM, rdL, rdT, rdE, rdN, ↓gTT, ↓gFF, ↓gTF, ↓gFT]
          refine wLoop_by (fun n s => ∃ i : Nat, i + n = 2 ∧ At s [(p6, .ow 1 (catAt a b i).length 3), (p25, .fz 2 none 1 [.fz a.length none 3 (encC a), .fz b.length none 3 (encC b)]), (p26, .int .i64 2), (p27, .int .i64 i)] 2 0 [(1, .row (encC (catAt a b i)))]) 2 ?_ ?_
          · exact ⟨0, by simp, by simp (implicitDefEqProofs := false) only [go_sem, reduceCtorEq, rdA, rdM, rdL, rdT, rdE, rdN, ↓gTT, ↓gFF, ↓gTF, ↓gFT]; simp [catAt, encC]⟩
          · rintro n ⟨e, nx, w, h⟩ ⟨i, hi, ⟨s1, s2, s3, s4, -⟩, rfl, rfl, rfl⟩
            have hi3 : i = 0 ∨ i = 1 ∨ i = 2 := by omega
            rcases hi3 with rfl | rfl | rfl
            · have h1 : decide ((0 : Int) < 2) = true := rfl
              have h4 : IntKind.i64.wrap ((0 : Int) + 1) = 1 := rfl
              have h5 : (0 : Int).toNat = 0 := rfl
              simp (implicitDefEqProofs := false) only [s1, s2, s3, s4, h1, h4, h5, encC_len, catAt, encC, go_sem, reduceCtorEq, rdA, rdM, rdL, rdT, rdE, rdN, ↓gTT, ↓gFF, ↓gTF, ↓gFT]
              repeat' (first | (with_reducible refine And.intro ?_ ?_) | (with_reducible refine gs_t ?_ ?_) | (with_reducible refine gs_f ?_ ?_) | (intro _) | fail)
              all_goals first | omega | (refine ⟨1, by omega, 1, by omega, ?_⟩; simp [catAt]) | (simp; done)
            · have h1 : decide ((1 : Int) < 2) = true := rfl
              have h4 : IntKind.i64.wrap ((1 : Int) + 1) = 2 := rfl
              have h5 : (1 : Int).toNat = 1 := rfl
              simp (implicitDefEqProofs := false) only [s1, s2, s3, s4, h1, h4, h5, encC_len, catAt, go_sem, reduceCtorEq, rdA, rdM, rdL, rdT, rdE, rdN, ↓gTT, ↓gFF, ↓gTF, ↓gFT]
              repeat' (first | (with_reducible refine And.intro ?_ ?_) | (with_reducible refine gs_t ?_ ?_) | (with_reducible refine gs_f ?_ ?_) | (intro _) | fail)
              all_goals first | omega | (refine ⟨0, by omega, 2, by omega, ?_⟩; simp [catAt, encC_app]) | (simp; done)
            · have h1 : decide ((2 : Int) < 2) = false := rfl
              simp (implicitDefEqProofs := false) only [s1, s2, s3, s4, h1, encC_len, catAt, go_sem, reduceCtorEq, rdA, rdM, rdL, rdT, rdE, rdN, ↓gTT, ↓gFF, ↓gTF, ↓gFT]
def vM (m : Mono) : VV := .agg [.int .i64 m.v, .int .i64 m.k]
theorem IndexM_ok (f : P) (cs : List VV) (p : Mono → Bool) (l : List Mono) (hl : l.length ≤ 4611686018427387904) (hcs : pureL cs = true) (hp : ∀ x ∈ l, VPure FT f (vM x :: cs) (.bool (p x))) :
    VPure FT p89 [.fz l.length none 2 (encM l), .fn f cs] (.int .i64 (idxOf p l 0)) := by
  refine vpure_of_body (f := p89) rfl rfl ?_
  simp (implicitDefEqProofs := false) only [go_sem, reduceCtorEq, rdA, rdM, rdL, rdT, rdE, rdN, ↓gTT, ↓gFF, ↓gTF, ↓gFT]
  refine wLoop_by (fun n s => ∃ i : Nat, i + n = l.length ∧ At s [(p0, .fz l.length none 2 (encM l)), (p1, .fn f cs), (p7, .int .i64 l.length), (p8, .int .i64 i)] 0 0 [] ∧ idxOf p l 0 = idxOf p (l.drop i) i) l.length ?_ ?_
  · exact ⟨0, by simp, by simp (implicitDefEqProofs := false) only [go_sem, reduceCtorEq, rdA, rdM, rdL, rdT, rdE, rdN, ↓gTT, ↓gFF, ↓gTF, ↓gFT], by simp⟩
  · rintro n ⟨e, nx, w, h⟩ ⟨i, hi, ⟨⟨s1, s2, s3, s4, -⟩, rfl, rfl, rfl⟩, hk⟩
    rcases Nat.lt_or_ge i l.length with hlt | hge
    · obtain ⟨x, hx⟩ := has hlt
      rw [drop_cons hx] at hk
      simp (implicitDefEqProofs := false) only [s1, s2, s3, s4, ltT hlt, encM_cut hx, encM_len, inc64 hlt hl, go_sem, reduceCtorEq, rdA, rdM, rdL, rdT, rdE, rdN, ↓gTT, ↓gFF, ↓gTF, ↓gFT]
      refine ⟨⟨by omega, by omega⟩, by omega, ?_⟩
      refine wCall_pp (r := .bool (p x)) (by simp [pureL, pureV, hcs]) (hp x (List.mem_of_getElem? hx)) rfl ?_
      simp (implicitDefEqProofs := false) only [inc64 hlt hl, go_sem, reduceCtorEq, rdA, rdM, rdL, rdT, rdE, rdN, ↓gTT, ↓gFF, ↓gTF, ↓gFT]
      refine gs_t (fun h => ?_) (fun h => ?_)
      · rw [hk]; simp [idxOf, h]
      · refine ⟨n - 1, by omega, i + 1, by omega, rfl, ?_⟩
        rw [hk]; simp [idxOf, h]
    · simp (implicitDefEqProofs := false) only [s1, s2, s3, s4, ltF hge, go_sem, reduceCtorEq, rdA, rdM, rdL, rdT, rdE, rdN, ↓gTT, ↓gFF, ↓gTF, ↓gFT]
      rw [hk, List.drop_eq_nil_of_le hge]; rfl
theorem ContainsM_ok (f : P) (cs : List VV) (p : Mono → Bool) (l : List Mono) (hl : l.length ≤ 4611686018427387904) (hcs : pureL cs = true) (hp : ∀ x ∈ l, VPure FT f (vM x :: cs) (.bool (p x))) :
    VPure FT p60 [.fz l.length none 2 (encM l), .fn f cs] (.bool (l.any p)) := by
  refine vpure_of_body (f := p60) rfl rfl ?_
  simp (implicitDefEqProofs := false) only [go_sem, reduceCtorEq, rdA, rdM, rdL, rdT, rdE, rdN, ↓gTT, ↓gFF, ↓gTF, ↓gFT]
  refine wCall_pp (r := .int .i64 (idxOf p l 0)) (by simp [pureL, pureV, hcs]) (IndexM_ok f cs p l hl hcs hp) rfl ?_
  simp (implicitDefEqProofs := false) only [go_sem, reduceCtorEq, rdA, rdM, rdL, rdT, rdE, rdN, ↓gTT, ↓gFF, ↓gTF, ↓gFT]
  exact idxOf_nonneg p l 0 (by omega)
theorem IndexI_ok (f : P) (cs : List VV) (p : Int → Bool) (l : List Int) (hl : l.length ≤ 4611686018427387904) (hcs : pureL cs = true) (hp : ∀ x ∈ l, VPure FT f (.int .i64 x :: cs) (.bool (p x))) :
    VPure FT p90 [.fz l.length none 1 (encI l), .fn f cs] (.int .i64 (idxOf p l 0)) := by
  refine vpure_of_body (f := p90) rfl rfl ?_
  simp (implicitDefEqProofs := false) only [go_sem, reduceCtorEq, rdA, rdM, rdL, rdT, rdE, rdN, ↓gTT, ↓gFF, ↓gTF, ↓gFT]
  refine wLoop_by (fun n s => ∃ i : Nat, i + n = l.length ∧ At s [(p0, .fz l.length none 1 (encI l)), (p1, .fn f cs), (p7, .int .i64 l.length), (p8, .int .i64 i)] 0 0 [] ∧ idxOf p l 0 = idxOf p (l.drop i) i) l.length ?_ ?_
  · exact ⟨0, by simp, by simp (implicitDefEqProofs := false) only [go_sem, reduceCtorEq, rdA, rdM, rdL, rdT, rdE, rdN, ↓gTT, ↓gFF, ↓gTF, ↓gFT], by simp⟩
  · rintro n ⟨e, nx, w, h⟩ ⟨i, hi, ⟨⟨s1, s2, s3, s4, -⟩, rfl, rfl, rfl⟩, hk⟩
    rcases Nat.lt_or_ge i l.length with hlt | hge
    · obtain ⟨x, hx⟩ := has hlt
      rw [drop_cons hx] at hk
      simp (implicitDefEqProofs := false) only [s1, s2, s3, s4, ltT hlt, Nat.mul_one, encI_g hx, encI_len, inc64 hlt hl, go_sem, reduceCtorEq, rdA, rdM, rdL, rdT, rdE, rdN, ↓gTT, ↓gFF, ↓gTF, ↓gFT]
      refine ⟨⟨by omega, by omega⟩, ?_⟩
      refine wCall_pp (r := .bool (p x)) (by simp [pureL, pureV, hcs]) (hp x (List.mem_of_getElem? hx)) rfl ?_
      simp (implicitDefEqProofs := false) only [inc64 hlt hl, go_sem, reduceCtorEq, rdA, rdM, rdL, rdT, rdE, rdN, ↓gTT, ↓gFF, ↓gTF, ↓gFT]
      refine gs_t (fun h => ?_) (fun h => ?_)
      · rw [hk]; simp [idxOf, h]
      · refine ⟨n - 1, by omega, i + 1, by omega, rfl, ?_⟩
        rw [hk]; simp [idxOf, h]
    · simp (implicitDefEqProofs := false) only [s1, s2, s3, s4, ltF hge, go_sem, reduceCtorEq, rdA, rdM, rdL, rdT, rdE, rdN, ↓gTT, ↓gFF, ↓gTF, ↓gFT]
      rw [hk, List.drop_eq_nil_of_le hge]; rfl
theorem ContainsI_ok (f : P) (cs : List VV) (p : Int → Bool) (l : List Int) (hl : l.length ≤ 4611686018427387904) (hcs : pureL cs = true) (hp : ∀ x ∈ l, VPure FT f (.int .i64 x :: cs) (.bool (p x))) :
    VPure FT p62 [.fz l.length none 1 (encI l), .fn f cs] (.bool (l.any p)) := by
  refine vpure_of_body (f := p62) rfl rfl ?_
  simp (implicitDefEqProofs := false) only [go_sem, reduceCtorEq, rdA, rdM, rdL, rdT, rdE, rdN, ↓gTT, ↓gFF, ↓gTF, ↓gFT]
  refine wCall_pp (r := .int .i64 (idxOf p l 0)) (by simp [pureL, pureV, hcs]) (IndexI_ok f cs p l hl hcs hp) rfl ?_
  simp (implicitDefEqProofs := false) only [go_sem, reduceCtorEq, rdA, rdM, rdL, rdT, rdE, rdN, ↓gTT, ↓gFF, ↓gTF, ↓gFT]
  exact idxOf_nonneg p l 0 (by omega)
def farB (v n : Int) (m : Mono) : Bool := decide (m.v ≠ v) && decide (n ≤ m.v)
theorem Span1_ok (m : Mono) (v : Int) (vals : List Int) : VPure FT p61 [vM m, .fp [.int .i64 v] 0, .fp [.fz vals.length none 1 (encI vals)] 0] (.bool (farB v vals.length m)) := by
  refine vpure_of_body (f := p61) rfl rfl ?_
  simp (implicitDefEqProofs := false) only [vM, go_sem, reduceCtorEq, rdA, rdM, rdL, rdT, rdE, rdN, ↓gTT, ↓gFF, ↓gTF, ↓gFT]
  unfold farB
  refine gs_t (fun h => ?_) (fun h => ?_) <;> simp_all
def outB (n : Int) : Bool := decide (n < -2147483648) || decide (2147483647 < n)
theorem Span2_ok (n : Int) : VPure FT p63 [.int .i64 n] (.bool (outB n)) := by
  refine vpure_of_body (f := p63) rfl rfl ?_
  simp (implicitDefEqProofs := false) only [go_sem, reduceCtorEq, rdA, rdM, rdL, rdT, rdE, rdN, ↓gTT, ↓gFF, ↓gTF, ↓gFT]
  unfold outB
  refine gs_f (fun h => ?_) (fun h => ?_) <;> first | (simp_all; done) | (simp_all; omega)
theorem tdiv_fix (a b : Int) (hb : 0 < b) : (if a.tmod b < 0 then a.tdiv b - 1 else a.tdiv b) = a / b := by
  have h1 := Int.mul_ediv_add_emod a b
  have h2 := Int.emod_nonneg a (show b ≠ 0 by omega)
  have h3 := Int.emod_lt_of_pos a hb
  have h4 := Int.mul_tdiv_add_tmod a b
  have hq : ∀ q r : Int, b * q + r = a → -b < r → r < b → (0 ≤ r → q = a / b) ∧ (r < 0 → q - 1 = a / b) := by
    intro q r hqr hr1 hr2
    have key : b * (q - a / b) = a % b - r := by rw [Int.mul_sub]; omega
    constructor
    · intro hr
      rcases Int.lt_trichotomy (q - a / b) 0 with h | h | h
      · have : b * (q - a / b) ≤ b * (-1) := Int.mul_le_mul_of_nonneg_left (by omega) (by omega); omega
      · omega
      · have : b * 1 ≤ b * (q - a / b) := Int.mul_le_mul_of_nonneg_left (by omega) (by omega); omega
    · intro hr
      rcases Int.lt_trichotomy (q - a / b) 1 with h | h | h
      · have : b * (q - a / b) ≤ b * 0 := Int.mul_le_mul_of_nonneg_left (by omega) (by omega); omega
      · omega
      · have : b * 2 ≤ b * (q - a / b) := Int.mul_le_mul_of_nonneg_left (by omega) (by omega); omega
  have hr2 : a.tmod b < b := Int.tmod_lt_of_pos a hb
  have hr1 : -b < a.tmod b := Int.lt_tmod_of_pos a hb
  obtain ⟨e1, e2⟩ := hq (a.tdiv b) (a.tmod b) h4 hr1 hr2
  by_cases h : a.tmod b < 0
  · rw [if_pos h]; exact e2 h
  · rw [if_neg h]; exact e1 (by omega)
theorem tdiv_bound (a b : Int) (hb : 0 < b) (ha : -1152921504606846976 ≤ a ∧ a ≤ 1152921504606846976) : -1152921504606846976 ≤ a.tdiv b ∧ a.tdiv b ≤ 1152921504606846976 := by
  have h : (a.tdiv b).natAbs ≤ a.natAbs := by
    rw [Int.natAbs_tdiv]; exact Nat.div_le_self _ _
  omega
theorem ediv_bound {a b B : Int} (hb : 0 < b) (ha : -B ≤ a ∧ a ≤ B) (hB : 0 ≤ B) : -B ≤ a / b ∧ a / b ≤ B := by
  have h1 := Int.mul_ediv_add_emod a b
  have h2 := Int.emod_nonneg a (show b ≠ 0 by omega)
  have h3 := Int.emod_lt_of_pos a hb
  constructor
  · rcases Int.lt_or_le (a / b) (-B) with h | h
    · have h5 : b * (a / b) ≤ b * (-B - 1) := Int.mul_le_mul_of_nonneg_left (by omega) (by omega)
      have h6 : b * (-B - 1) = -(b * B) - b := by rw [Int.mul_sub, Int.mul_neg, Int.mul_one]
      have h7 : B * 1 ≤ B * b := Int.mul_le_mul_of_nonneg_left (by omega) hB
      rw [Int.mul_comm B b] at h7
      omega
    · exact h
  · rcases Int.lt_or_le B (a / b) with h | h
    · have h5 : 1 * (a / b) ≤ b * (a / b) := Int.mul_le_mul_of_nonneg_right (by omega) (by omega)
      omega
    · exact h
theorem down_ok (a b : Int) (hb : 0 < b) (ha : -1152921504606846976 ≤ a ∧ a ≤ 1152921504606846976) : VPure FT p65 [.int .i64 a, .int .i64 b] (.int .i64 (a / b)) := by
  refine vpure_of_body (f := p65) rfl rfl ?_
  have h1 := tdiv_bound a b hb ha
  have h2 : IntKind.i64.wrap (a.tdiv b) = a.tdiv b := i64 (by omega)
  have h3 : IntKind.i64.wrap (a.tdiv b - 1) = a.tdiv b - 1 := i64 (by omega)
  have h4 := tdiv_fix a b hb
  simp (implicitDefEqProofs := false) only [h2, h3, go_sem, reduceCtorEq, rdA, rdM, rdL, rdT, rdE, rdN, ↓gTT, ↓gFF, ↓gTF, ↓gFT]
  refine ⟨by omega, by omega, gs_t (fun h => ?_) (fun h => ?_)⟩
  · rw [← h4, if_pos (by simpa using h)]
  · rw [← h4, if_neg (by simpa using h)]
end Go.Proofs.Ythdlkpmhjbaplaa.Dx
