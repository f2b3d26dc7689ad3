/- The value machine: instructions that make, write, extend blocks of one's own; all instructions. No statement of this seat is proved here. -/
import Derived.Test.YthdlkpmhjbaplaaVxD
set_option autoImplicit false
set_option linter.unusedVariables false
namespace Go.Proofs.Ythdlkpmhjbaplaa.Dx
open Go

section
variable {c : Ctx} {nx w : Nat} {vh : VHp} {dnx : P} {dh : Hp} {g : Gh}

/-- A block of one's own is written, or goes on elsewhere. -/
theorem HpR.renew (R : HpR c nx w vh dnx dh g) {k : Nat} {ob ob' : VOb} {r r' : DV} {dnx' : P} {dh' : Hp} (hk : hget vh k = some ob) (hr : g.μ k = some r)
    (hlen : ob.cells.length ≤ ob'.cells.length) (hsame : ob.cells.length = ob'.cells.length → r' = r)
    (hdh : ∀ a : P, a.n < dnx.n → (∀ b q, refAt r = some (b, q) → a ≠ b) → Tr.get? a dh' = Tr.get? a dh)
    (htop : ∀ a : P, dnx'.n ≤ a.n → Tr.get? a dh' = none) (hle : dnx.n ≤ dnx'.n)
    (hr' : ∀ b q, refAt r' = some (b, q) → dnx.n ≤ b.n ∨ ∃ q', refAt r = some (b, q'))
    (hB : (∀ a, g.Z a → objAt a dh' = objAt a dh) → MLe (mm nx vh g) (mm nx (hset vh k ob') ⟨g.Z, upd g.μ k r'⟩) → Blk g.Z dh' (mm nx (hset vh k ob') ⟨g.Z, upd g.μ k r'⟩) ob' r') :
    HpR c nx w (hset vh k ob') dnx' dh' ⟨g.Z, upd g.μ k r'⟩ ∧ Evo nx vh dnx dh g nx (hset vh k ob') dnx' dh' ⟨g.Z, upd g.μ k r'⟩ := by
  have hm : MLe (mm nx vh g) (mm nx (hset vh k ob') ⟨g.Z, upd g.μ k r'⟩) := by
    refine ⟨Nat.le_refl _, fun i hi m' r1 e => ?_⟩
    obtain ⟨o, h1, h2, h3⟩ := mof_some e
    by_cases hik : i = k
    · subst hik
      rw [hget_set_self hk] at h1; cases h1
      simp only [upd_self] at h2; cases h2
      refine ⟨_, r, mof_eq hk hr, by omega, fun e => hsame (by omega)⟩
    · rw [hget_set_ne hik] at h1
      simp only [upd_ne hik] at h2
      exact ⟨m', r1, by rw [mof_eq h1 h2, h3], Nat.le_refl _, fun _ => rfl⟩
  have hz : ∀ a, g.Z a → Tr.get? a dh' = Tr.get? a dh := fun a ha => hdh a (R.zlt a ha) fun b q hb => by
    rintro rfl; exact (R.own k ob r a q hk hr hb).1 ha
  have ho : ∀ a, g.Z a → objAt a dh' = objAt a dh := fun a ha => objAt_of (hz a ha)
  have old : ∀ i o, hget (hset vh k ob') i = some o → i ≠ k → hget vh i = some o := by
    intro i o hi hne
    rwa [hget_set_ne hne] at hi
  refine ⟨?_, ⟨hm, fun _ h => h, ho, hle⟩⟩
  constructor
  · intro i o hi
    by_cases hik : i = k
    · subst hik
      rw [hget_set_self hk] at hi; cases hi
      exact ⟨(R.blk i ob hk).1, r', upd_self _ _ _, hB ho hm⟩
    · have hi' := old i o hi hik
      obtain ⟨h1, r1, e1, B1⟩ := R.blk i o hi'
      refine ⟨h1, r1, (upd_ne hik).trans e1, B1.mono (fun _ h => h) ho hm fun b q hb => hdh b (R.lt hi' e1 hb) fun b' q' hb' => ?_⟩
      rintro rfl
      exact hik (R.inj i k o ob r1 r b q q' hi' hk e1 hr hb hb')
  · intro i o r1 b q1 hi hr1 hb
    by_cases hik : i = k
    · subst hik
      simp only [upd_self] at hr1; cases hr1
      rcases hr' b q1 hb with h1 | ⟨q', h1⟩
      · refine ⟨fun hz => ?_, .inl (Nat.le_trans R.le h1), fun _ m hm => Nat.le_trans (R.wm m hm) h1⟩
        have := R.zlt _ hz; omega
      · exact R.own i ob r b q' hk hr h1
    · simp only [upd_ne hik] at hr1
      exact R.own i o r1 b q1 (old i o hi hik) hr1 hb
  · intro i i' o o' r1 r2 b q1 q2 hi hi' hr1 hr2 hb hb'
    by_cases hik : i = k
    · by_cases hik' : i' = k
      · rw [hik, hik']
      · subst hik
        simp only [upd_self] at hr1; cases hr1
        simp only [upd_ne hik'] at hr2
        have hi2 := old i' o' hi' hik'
        rcases hr' b q1 hb with h1 | ⟨q', h1⟩
        · have := R.lt hi2 hr2 hb'; omega
        · exact R.inj i i' ob o' r r2 b q' q2 hk hi2 hr hr2 h1 hb'
    · have hi1 := old i o hi hik
      simp only [upd_ne hik] at hr1
      by_cases hik' : i' = k
      · subst hik'
        simp only [upd_self] at hr2; cases hr2
        rcases hr' b q2 hb' with h1 | ⟨q', h1⟩
        · have := R.lt hi1 hr1 hb; omega
        · exact R.inj i i' o ob r1 r b q1 q' hi1 hk hr1 hr hb h1
      · simp only [upd_ne hik'] at hr2
        exact R.inj i i' o o' r1 r2 b q1 q2 hi1 (old i' o' hi' hik') hr1 hr2 hb hb'
  · intro b hb; exact Nat.lt_of_lt_of_le (R.zlt b hb) hle
  · exact R.zold
  · exact htop
  · intro b hb hn
    rw [hdh b (Nat.lt_of_lt_of_le hb R.le) fun b' q hb' => ?_]
    · exact R.keep b hb hn
    · rintro rfl
      rcases (R.own k ob r b q hk hr hb').2.1 with h1 | h1
      · omega
      · exact hn h1
  · exact Nat.le_trans R.le hle
  · intro m hm; exact Nat.le_trans (R.wm m hm) hle
  · exact R.wf
/-- A part of a row of one's own. -/
theorem HpR.move (R : HpR c nx w vh dnx dh g) {k : Nat} {ob ob' : VOb} {r r' : DV} (hk : hget vh k = some ob) (hr : g.μ k = some r) (hw : w ≤ k)
    (hr' : ∀ b q, refAt r' = some (b, q) → ∃ q', refAt r = some (b, q'))
    (hB : MLe (mm nx vh g) (mm (nx + 1) ((nx, ob') :: hdel vh k) ⟨g.Z, upd g.μ nx r'⟩) → Blk g.Z dh (mm (nx + 1) ((nx, ob') :: hdel vh k) ⟨g.Z, upd g.μ nx r'⟩) ob' r') :
    HpR c (nx + 1) w ((nx, ob') :: hdel vh k) dnx dh ⟨g.Z, upd g.μ nx r'⟩ ∧ Evo nx vh dnx dh g (nx + 1) ((nx, ob') :: hdel vh k) dnx dh ⟨g.Z, upd g.μ nx r'⟩ := by
  have hkn := (R.blk k ob hk).1
  have old : ∀ i o, hget ((nx, ob') :: hdel vh k) i = some o → i ≠ nx → hget vh i = some o ∧ i ≠ k ∧ i < nx := by
    intro i o hi hne
    simp only [hget, if_neg hne] at hi
    rw [hget_del] at hi
    by_cases hik : i = k
    · rw [if_pos hik] at hi; cases hi
    · rw [if_neg hik] at hi; exact ⟨hi, hik, (R.blk i o hi).1⟩
  have hm : MLe (mm nx vh g) (mm (nx + 1) ((nx, ob') :: hdel vh k) ⟨g.Z, upd g.μ nx r'⟩) := by
    refine ⟨by omega, fun i hi m' r1 e => ?_⟩
    obtain ⟨o, h1, h2, h3⟩ := mof_some e
    obtain ⟨h4, _, _⟩ := old i o h1 (by omega)
    simp only [upd_ne (show i ≠ nx by omega)] at h2
    exact ⟨m', r1, by rw [mof_eq h4 h2, h3], Nat.le_refl _, fun _ => rfl⟩
  refine ⟨?_, ⟨hm, fun _ h => h, fun _ _ => rfl, Nat.le_refl _⟩⟩
  constructor
  · intro i o hi
    by_cases hik : i = nx
    · subst hik
      simp only [hget, if_pos] at hi; cases hi
      exact ⟨by omega, r', upd_self _ _ _, hB hm⟩
    · obtain ⟨hi', _, hlt⟩ := old i o hi hik
      obtain ⟨_, r1, e1, B1⟩ := R.blk i o hi'
      exact ⟨by omega, r1, (upd_ne hik).trans e1, B1.mono (fun _ h => h) (fun _ _ => rfl) hm fun _ _ _ => rfl⟩
  · intro i o r1 b q1 hi hr1 hb
    by_cases hik : i = nx
    · subst hik
      simp only [upd_self] at hr1; cases hr1
      obtain ⟨q', h1⟩ := hr' b q1 hb
      obtain ⟨a1, a2, a3⟩ := R.own k ob r b q' hk hr h1
      exact ⟨a1, a2, fun _ => a3 hw⟩
    · simp only [upd_ne hik] at hr1
      exact R.own i o r1 b q1 (old i o hi hik).1 hr1 hb
  · intro i i' o o' r1 r2 b q1 q2 hi hi' hr1 hr2 hb hb'
    by_cases hik : i = nx
    · by_cases hik' : i' = nx
      · rw [hik, hik']
      · subst hik
        simp only [upd_self] at hr1; cases hr1
        simp only [upd_ne hik'] at hr2
        obtain ⟨hi2, hne, _⟩ := old i' o' hi' hik'
        obtain ⟨q', h1⟩ := hr' b q1 hb
        exact absurd (R.inj k i' ob o' r r2 b q' q2 hk hi2 hr hr2 h1 hb').symm hne
    · obtain ⟨hi1, hne1, _⟩ := old i o hi hik
      simp only [upd_ne hik] at hr1
      by_cases hik' : i' = nx
      · subst hik'
        simp only [upd_self] at hr2; cases hr2
        obtain ⟨q', h1⟩ := hr' b q2 hb'
        exact absurd (R.inj i k o ob r1 r b q1 q' hi1 hk hr1 hr hb h1) hne1
      · simp only [upd_ne hik'] at hr2
        exact R.inj i i' o o' r1 r2 b q1 q2 hi1 (old i' o' hi' hik').1 hr1 hr2 hb hb'
  · exact R.zlt
  · exact R.zold
  · exact R.top
  · exact R.keep
  · exact R.le
  · exact R.wm
  · exact R.wf
end

theorem objAt_set_self {k : P} {h : Hp} {l : List DV} : objAt k (Tr.set k h (some (.cells l))) = some l := by unfold objAt; rw [Tr.get_set_self]

section
variable {F : Tr Fd} {s : VSt} {K : VSt → VV → Prop}

/-- A block is made: what must be said of it. -/
theorem isem_new {i : Ins} {c : Ctx} {d : DS} {g : Gh} {cells : List DV} {ob : VOb} {v : VV} {r : DV} {vh : VHp} {q : Nat} (R : RS c s d g) {g0 : Gh} (R0 : HpR c s.nx s.w vh d.nx d.h g0) (E0 : Evo s.nx s.h d.nx d.h g s.nx vh d.nx d.h g0)
    (hr : refAt r = some (d.nx, q))
    (hB : (∀ a, g0.Z a → objAt a (Tr.set d.nx d.h (some (.cells cells))) = objAt a d.h) → MLe (mm s.nx vh g0) (mm (s.nx + 1) ((s.nx, ob) :: vh) ⟨g0.Z, upd g0.μ s.nx r⟩) → Blk g0.Z (Tr.set d.nx d.h (some (.cells cells))) (mm (s.nx + 1) ((s.nx, ob) :: vh) ⟨g0.Z, upd g0.μ s.nx r⟩) ob r)
    (hx : XR g0.Z (Tr.set d.nx d.h (some (.cells cells))) (mm (s.nx + 1) ((s.nx, ob) :: vh) ⟨g0.Z, upd g0.μ s.nx r⟩) v r)
    (run : ∀ (n : Nat) (k : Kv), insK i F (exec F n) c.wm d.e d.nx d.h k = k d.e r d.nx.suc (Tr.set d.nx d.h (some (.cells cells))))
    (hK : K ⟨s.e, s.nx + 1, s.w, (s.nx, ob) :: vh⟩ v) :
    ∃ s' v d' x g', IRun F i c d d' x ∧ RS c s' d' g' ∧ s'.w = s.w ∧ XR g'.Z d'.h (mm s'.nx s'.h g') v x ∧ EvoS s d g s' d' g' ∧ K s' v := by
  have hm : MLe (mm s.nx vh g0) (mm (s.nx + 1) ((s.nx, ob) :: vh) ⟨g0.Z, upd g0.μ s.nx r⟩) := by
    refine ⟨by omega, fun k hk m' r' e => ?_⟩
    obtain ⟨o, h1, h2, h3⟩ := mof_some e
    simp only [hget, if_neg (show k ≠ s.nx by omega)] at h1
    simp only [upd_ne (show k ≠ s.nx by omega)] at h2
    exact ⟨m', r', by rw [mof_eq h1 h2, h3], Nat.le_refl _, fun _ => rfl⟩
  have ho : ∀ b, g0.Z b → objAt b (Tr.set d.nx d.h (some (.cells cells))) = objAt b d.h := fun b hb => objAt_of (get_new _ (R0.zlt b hb))
  obtain ⟨R1, E1⟩ := R0.alloc hr (hB ho hm)
  exact ⟨⟨s.e, s.nx + 1, s.w, (s.nx, ob) :: vh⟩, v, ⟨d.e, d.nx.suc, Tr.set d.nx d.h (some (.cells cells))⟩, r, ⟨g0.Z, upd g0.μ s.nx r⟩, ⟨0, fun n _ k => run n k⟩, ⟨(E0.trans E1).env R.env, R1⟩, rfl, hx, E0.trans E1, hK⟩

theorem s_al {z : List DV} (H : wI F (.al z) s K) : ISem F (.al z) s K := by
  intro c d g R
  simp only [wI] at H
  cases hz : ofDVs z with
  | none => simp only [hz] at H
  | some l =>
    simp only [hz] at H
    have hl : XRs g.Z (Tr.set d.nx d.h (some (.cells z))) (mm (s.nx + 1) ((s.nx, .obj l) :: s.h) ⟨g.Z, upd g.μ s.nx (.ptr d.nx 0)⟩) l z := ofDVs_sound hz
    refine isem_new R R.hp (Evo.refl _ _ _ _ _) (r := .ptr d.nx 0) (cells := z) rfl (fun ho hm => ?_) ?_ (fun n k => ?_) H
    · refine .inr (.inr ⟨d.nx, 0, z, rfl, Tr.get_set_self _ _ _, ?_, ?_⟩)
      · show 0 + l.length ≤ z.length; rw [hl.length]; omega
      · show XRs _ _ (mm _ _ _) l ((z.drop 0).take l.length)
        rw [hl.length, List.drop_zero, List.take_length]; exact hl
    · refine .pt ⟨_, _, rfl⟩ (by omega) fun m' r' e => ?_
      obtain ⟨o, h1, h2, h3⟩ := mof_some e
      simp only [hget, if_pos] at h1; cases h1
      simp only [upd_self] at h2; cases h2
      exact ⟨by rw [← h3]; exact Nat.le_refl _, fun _ => ⟨_, _, rfl, rfl⟩⟩
    · show newK z d.e d.nx d.h (fun n => .ptr n 0) k = _
      rw [newK_eq]
theorem s_bx {a : Opd} (H : wI F (.bx a) s K) : ISem F (.bx a) s K := by
  intro c d g R
  simp only [wI] at H
  cases hz : vov a s.e with
  | none => simp only [hz] at H
  | some v =>
    simp only [hz] at H
    cases hc : vcells v with
    | none => simp only [hc] at H
    | some l =>
      simp only [hc] at H
      obtain ⟨z, h1, h2⟩ := vcells_sound (vov_sound R.env hz) hc
      refine isem_new R R.hp (Evo.refl _ _ _ _ _) (r := .ptr d.nx 0) (cells := z) rfl (fun ho hm => ?_) ?_ (fun n k => ?_) H
      · have hl : XRs g.Z (Tr.set d.nx d.h (some (.cells z))) (mm (s.nx + 1) ((s.nx, .obj l) :: s.h) ⟨g.Z, upd g.μ s.nx (.ptr d.nx 0)⟩) l z := XRs.mono (fun _ h => h) ho hm h2
        refine .inr (.inr ⟨d.nx, 0, z, rfl, Tr.get_set_self _ _ _, ?_, ?_⟩)
        · show 0 + l.length ≤ z.length; rw [hl.length]; omega
        · show XRs _ _ (mm _ _ _) l ((z.drop 0).take l.length)
          rw [hl.length, List.drop_zero, List.take_length]; exact hl
      · refine .pt ⟨_, _, rfl⟩ (by omega) fun m' r' e => ?_
        obtain ⟨o, h1, h2, h3⟩ := mof_some e
        simp only [hget, if_pos] at h1; cases h1
        simp only [upd_self] at h2; cases h2
        exact ⟨by rw [← h3]; exact Nat.le_refl _, fun _ => ⟨_, _, rfl, rfl⟩⟩
      · show ovK a d.e (fun v => cellsK v .fail fun l => newK l d.e d.nx d.h (fun n => .ptr n 0) k) = _
        rw [ovK_eq, cellsK_eq, h1]
        show newK z d.e d.nx d.h (fun n => .ptr n 0) k = _
        rw [newK_eq]

/-- A row of one's own that begins at a new key. -/
theorem blk_row {Z : P → Prop} {h : Hp} {M : Option MM} {b : P} {n sz : Nat} {cp : Option Nat} {l : List VV} {cells : List DV} (hb : Tr.get? b h = some (.cells cells)) (hl : l.length = n * sz)
    (hc : ∀ c, cp = some c → n ≤ c ∧ c * sz ≤ cells.length) (hx : ∃ r t, cells = r ++ t ∧ XRs Z h none l r) : Blk Z h M (.row l) (.sl b 0 n cp sz) := by
  obtain ⟨r, t, rfl, hx⟩ := hx
  have hlen := hx.length
  refine .inr (.inl ⟨b, 0, n, cp, sz, _, rfl, hb, hl, ?_, fun c h => ⟨(hc c h).1, by rw [Nat.zero_add]; exact (hc c h).2⟩, ?_⟩)
  · rw [List.length_append]; omega
  · show XRs Z h none l (((r ++ t).drop 0).take l.length)
    rw [hlen, List.drop_zero, List.take_left]; exact hx
theorem xr_ow_new {Z : P → Prop} {h : Hp} {nx : Nat} {vh : VHp} {g : Gh} {n sz : Nat} {l : List VV} {r : DV} (hl : l.length = n * sz) (hr : (r = .nils ∧ n = 0) ∨ ∃ b o c, r = .sl b o n c sz) :
    XR Z h (mm (nx + 1) ((nx, .row l) :: vh) ⟨g.Z, upd g.μ nx r⟩) (.ow nx n sz) r := by
  refine .ow (by rcases hr with ⟨h, _⟩ | ⟨b, o, c, h⟩ <;> rw [h] <;> first | exact .inl rfl | exact .inr ⟨_, _, _, _, _, rfl⟩) (by omega) fun m r' e => ?_
  obtain ⟨o, h1, h2, h3⟩ := mof_some e
  simp only [hget, if_pos] at h1; cases h1
  simp only [upd_self] at h2; cases h2
  exact ⟨by rw [← h3, ← hl]; exact Nat.le_refl _, fun _ => ⟨rfl, hr⟩⟩

theorem s_bsl {len sz : Nat} {z : List DV} {ps : List (Nat × Nat × Opd)} (H : wI F (.bsl len sz z ps) s K) : ISem F (.bsl len sz z ps) s K := by
  intro c d g R
  simp only [wI] at H
  cases hz : ofDVs z with
  | none => simp only [hz] at H
  | some z' =>
    simp only [hz] at H
    cases hf : vfills s.e ps z' with
    | none => simp only [hf] at H
    | some l =>
      simp only [hf] at H
      cases hw : vwL s.h l with
      | none => simp only [hw] at H
      | some l1 =>
        simp only [hw] at H
        obtain ⟨hlen, H⟩ := H
        obtain ⟨l', h1, h2⟩ := vfills_sound R.env (ofDVs_sound hz) hf
        have h3 := vwL_sound R.hp h2 hw (ks := keysL l) fun k h => h
        obtain ⟨R1, E1⟩ := R.hp.freeze (keysL l) (zOf s.h g (keysL l)) fun b => Iff.rfl
        have hlen' : l1.length = len * sz := by rw [h3.length, ← h2.length]; exact hlen
        refine isem_new R R1 E1 (r := .sl d.nx 0 len (some len) sz) (cells := l') rfl (fun ho hm => ?_) ?_ (fun n k => ?_) H
        · exact blk_row (Tr.get_set_self _ _ _) hlen' (fun c h => by cases h; exact ⟨Nat.le_refl _, by rw [← h3.length, hlen']; exact Nat.le_refl _⟩)
            ⟨l', [], by simp, XRs.mono (M := none) (M' := none) (fun _ h => h) ho trivial h3⟩
        · exact xr_ow_new (g := ⟨zOf s.h g (keysL l), g.μ⟩) hlen' (.inr ⟨_, _, _, rfl⟩)
        · show fillK ps z d.e (fun l => newK l d.e d.nx d.h (fun n => .sl n 0 len (some len) sz) k) = _
          rw [fillK_eq, h1]
          show newK l' d.e d.nx d.h (fun n => .sl n 0 len (some len) sz) k = _
          rw [newK_eq]

theorem ofDVs_len : ∀ {z : List DV} {l : List VV}, ofDVs z = some l → l.length = z.length := fun h => (ofDVs_sound (Z := fun _ => True) (h := .nl) (M := none) h).length
theorem reps_len {α : Type} (z : List α) (n : Nat) : (List.replicate n z).flatten.length = n * z.length := by
  induction n with
  | zero => simp
  | succ n ih => simp only [List.replicate_succ, List.flatten_cons, List.length_append, ih]; rw [Nat.succ_mul]; omega
theorem reps_add {α : Type} (z : List α) (n m : Nat) : (List.replicate (n + m) z).flatten = (List.replicate n z).flatten ++ (List.replicate m z).flatten := by
  rw [← List.replicate_append_replicate, List.flatten_append]
theorem s_msl {sz bt : Nat} {z : List DV} {len cap : Opd} (H : wI F (.msl sz bt z len cap) s K) : ISem F (.msl sz bt z len cap) s K := by
  intro c d g R
  simp only [wI] at H
  cases hz : ofDVs z with
  | none => simp only [hz] at H
  | some z' =>
    simp only [hz] at H
    cases hx : vev len s.e with
    | none => simp only [hx] at H
    | some v =>
      cases v <;> simp only [hx] at H
      rename_i j x
      cases hy : vev cap s.e with
      | none => simp only [hy] at H
      | some v =>
        cases v <;> simp only [hy] at H
        rename_i j' y
        obtain ⟨hsz, ⟨h1, h2, h3⟩, H⟩ := H
        have e1 := (vev_sound R.env hx).int_inv
        have e2 := (vev_sound R.env hy).int_inv
        have hz' := ofDVs_len hz
        obtain ⟨q, rfl⟩ : ∃ q : Nat, x = q := ⟨x.toNat, by omega⟩
        obtain ⟨t, rfl⟩ : ∃ t : Nat, y = t := ⟨y.toNat, by omega⟩
        simp only [Int.toNat_natCast] at H
        refine isem_new R R.hp (Evo.refl _ _ _ _ _) (r := .sl d.nx 0 q (some t) sz) (cells := reps z t) rfl (fun ho hm => ?_) ?_ (fun n k => ?_) H
        · refine blk_row (Tr.get_set_self _ _ _) (by unfold reps'; rw [reps_len, hsz]) (fun c h => by cases h; exact ⟨by omega, by unfold reps; rw [reps_len, ← hz', hsz]; exact Nat.le_refl _⟩) ?_
          refine ⟨reps z q, reps z (t - q), ?_, ?_⟩
          · unfold reps; rw [← reps_add]; congr 2; omega
          · unfold reps' reps; exact (ofDVs_sound hz).reps q
        · exact xr_ow_new (by unfold reps'; rw [reps_len, hsz]) (.inr ⟨_, _, _, rfl⟩)
        · show asI (ev len d.e) .fail (fun _ x => natI x fun n => asI (ev cap d.e) .fail fun _ y => natI y fun c => chk (Nat.ble n c) fun _ =>
            chk (Nat.ble (Nat.mul bt c) (nat_lit 1073741824)) fun _ => repZ z c fun l => forceN n fun n => forceN c fun c => newK l d.e d.nx d.h (fun b => .sl b (nat_lit 0) n (some c) sz) k) = _
          rw [e1, asI_eq]
          show natI (q : Int) (fun n => asI (ev cap d.e) .fail fun _ y => natI y fun c => chk (Nat.ble n c) fun _ =>
            chk (Nat.ble (Nat.mul bt c) (nat_lit 1073741824)) fun _ => repZ z c fun l => forceN n fun n => forceN c fun c => newK l d.e d.nx d.h (fun b => .sl b (nat_lit 0) n (some c) sz) k) = _
          rw [natI_eq, if_pos (by omega), e2, asI_eq]
          show natI (t : Int) (fun c => chk (Nat.ble (q : Int).toNat c) fun _ =>
            chk (Nat.ble (Nat.mul bt c) (nat_lit 1073741824)) fun _ => repZ z c fun l => forceN (q : Int).toNat fun n => forceN c fun c => newK l d.e d.nx d.h (fun b => .sl b (nat_lit 0) n (some c) sz) k) = _
          rw [natI_eq, if_pos (by omega), chk_eq, if_pos (by rw [Nat.ble_eq]; omega), chk_eq, if_pos (by
            rw [Nat.ble_eq]; show bt * (t : Int).toNat ≤ 1073741824
            rw [Int.toNat_natCast]
            have : (bt : Int) * t = ((bt * t : Nat) : Int) := by simp
            rw [this] at h3; omega), repZ_eq, forceN_eq, forceN_eq, newK_eq]
          simp only [Int.toNat_natCast]
theorem s_apz {sz bt : Nat} {z : List DV} {a n0 : Opd} (H : wI F (.apz sz bt z a n0) s K) : ISem F (.apz sz bt z a n0) s K := by
  intro c d g R
  simp only [wI] at H
  cases hz : ofDVs z with
  | none => simp only [hz] at H
  | some z' =>
    simp only [hz] at H
    cases hx : vev a s.e with
    | none => simp only [hx] at H
    | some v =>
      cases v <;> simp only [hx] at H
      cases hy : vev n0 s.e with
      | none => simp only [hy] at H
      | some v =>
        cases v <;> simp only [hy] at H
        rename_i j' y
        obtain ⟨hsz, ⟨h1, h3⟩, H⟩ := H
        have e1 := (vev_sound R.env hx).nils_inv
        have e2 := (vev_sound R.env hy).int_inv
        have hz' := ofDVs_len hz
        obtain ⟨t, rfl⟩ : ∃ t : Nat, y = t := ⟨y.toNat, by omega⟩
        simp only [Int.toNat_natCast] at H
        have run : ∀ (n : Nat) (k : Kv), insK (.apz sz bt z a n0) F (exec F n) c.wm d.e d.nx d.h k = Bool.rec (motive := fun _ => Res) (apzN sz z t d.e d.nx d.h k) (k d.e .nils d.nx d.h) (Nat.beq t (nat_lit 0)) := by
          intro n k
          show nilsK (ev a d.e) .fail (fun _ => asI (ev n0 d.e) .fail fun _ x => natI x fun n => chk (Nat.ble (Nat.mul n bt) (nat_lit 1073741824)) fun _ =>
            Bool.rec (motive := fun _ => Res) (apzN sz z n d.e d.nx d.h k) (k d.e .nils d.nx d.h) (Nat.beq n (nat_lit 0))) = _
          rw [e1, nilsK_eq]
          show asI (ev n0 d.e) .fail (fun _ x => natI x fun n => chk (Nat.ble (Nat.mul n bt) (nat_lit 1073741824)) fun _ =>
            Bool.rec (motive := fun _ => Res) (apzN sz z n d.e d.nx d.h k) (k d.e .nils d.nx d.h) (Nat.beq n (nat_lit 0))) = _
          rw [e2, asI_eq]
          show natI (t : Int) (fun n => chk (Nat.ble (Nat.mul n bt) (nat_lit 1073741824)) fun _ =>
            Bool.rec (motive := fun _ => Res) (apzN sz z n d.e d.nx d.h k) (k d.e .nils d.nx d.h) (Nat.beq n (nat_lit 0))) = _
          rw [natI_eq, if_pos (by omega), chk_eq, if_pos (by
            rw [Nat.ble_eq]; show (t : Int).toNat * bt ≤ 1073741824
            rw [Int.toNat_natCast]
            have : (t : Int) * bt = ((t * bt : Nat) : Int) := by simp
            rw [this] at h3; omega), Int.toNat_natCast]
        cases t with
        | zero =>
          obtain ⟨R1, E1⟩ := R.hp.addNil
          refine ⟨⟨s.e, s.nx + 1, s.w, (s.nx, .row (reps' z' 0)) :: s.h⟩, .ow s.nx 0 sz, d, .nils, ⟨g.Z, upd g.μ s.nx .nils⟩, ⟨0, fun n _ k => ?_⟩, ⟨E1.env R.env, R1⟩, rfl, ?_, E1, H⟩
          · rw [run]; rfl
          · exact xr_ow_new (by simp [reps']) (.inl ⟨rfl, rfl⟩)
        | succ t =>
          refine isem_new R R.hp (Evo.refl _ _ _ _ _) (r := .sl d.nx 0 (t + 1) none sz) (cells := reps z (t + 1)) rfl (fun ho hm => ?_) ?_ (fun n k => ?_) H
          · refine blk_row (Tr.get_set_self _ _ _) (by unfold reps'; rw [reps_len, hsz]) (fun c h => by cases h) ?_
            exact ⟨reps z (t + 1), [], by simp, by unfold reps' reps; exact (ofDVs_sound hz).reps _⟩
          · exact xr_ow_new (by unfold reps'; rw [reps_len, hsz]) (.inr ⟨_, _, _, rfl⟩)
          · rw [run]
            show repZ z (t + 1) (fun new => apNew sz 0 (t + 1) [] new d.e d.nx d.h k) = _
            rw [repZ_eq]
            show catK [] (reps z (t + 1)) (fun l => forceN (Nat.add 0 (t + 1)) fun n => newK l d.e d.nx d.h (fun b => .sl b (nat_lit 0) n none sz) k) = _
            rw [catK_eq, forceN_eq, newK_eq]
            show k d.e (.sl d.nx 0 (0 + (t + 1)) none sz) _ _ = _
            rw [Nat.zero_add, List.nil_append]

end
end Go.Proofs.Ythdlkpmhjbaplaa.Dx
