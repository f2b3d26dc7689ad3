/- The value machine: instructions that touch no block of one's own, by what the small machine does. No statement of this seat is proved here. -/
import Derived.Test.YthdlkpmhjbaplaaVxC
set_option autoImplicit false
set_option linter.unusedVariables false
namespace Go.Proofs.Ythdlkpmhjbaplaa.Dx
open Go

theorem cut_get {α : Type} {l : List α} {q n i : Nat} {d : α} (h : ((l.drop q).take n)[i]? = some d) : l[q + i]? = some d := by
  rw [List.getElem?_take] at h
  by_cases hi : i < n
  · rw [if_pos hi, List.getElem?_drop] at h; exact h
  · rw [if_neg hi] at h; cases h
theorem cut_cut {α : Type} (l : List α) {q n o m : Nat} (h : o + m ≤ n) : (((l.drop q).take n).drop o).take m = (l.drop (q + o)).take m := by
  rw [List.drop_take, List.drop_drop, List.take_take, Nat.min_eq_left (by omega)]
theorem cut_len {α : Type} {l : List α} {q n : Nat} (h : q + n ≤ l.length) : ((l.drop q).take n).length = n := by
  rw [List.length_take, List.length_drop]; omega

def ISem (F : Tr Fd) (i : Ins) (s : VSt) (K : VSt → VV → Prop) : Prop :=
  ∀ (c : Ctx) (d : DS) (g : Gh), RS c s d g → ∃ s' v d' x g', IRun F i c d d' x ∧ RS c s' d' g' ∧ s'.w = s.w ∧ XR g'.Z d'.h (mm s'.nx s'.h g') v x ∧ EvoS s d g s' d' g' ∧ K s' v

section
variable {F : Tr Fd} {s : VSt} {K : VSt → VV → Prop} {Z : P → Prop} {h : Hp} {M : Option MM}

theorem isem_val {i : Ins} {v : VV} {c : Ctx} {d : DS} {g : Gh} {x : DV} (R : RS c s d g) (hK : K s v) (hx : XR g.Z d.h (mm s.nx s.h g) v x)
    (run : ∀ (n : Nat) (k : Kv), insK i F (exec F n) c.wm d.e d.nx d.h k = k d.e x d.nx d.h) :
    ∃ s' v d' x g', IRun F i c d d' x ∧ RS c s' d' g' ∧ s'.w = s.w ∧ XR g'.Z d'.h (mm s'.nx s'.h g') v x ∧ EvoS s d g s' d' g' ∧ K s' v :=
  ⟨s, v, d, x, g, ⟨0, fun n _ k => run n k⟩, R, rfl, hx, Evo.refl _ _ _ _ _, hK⟩

theorem XR.bool_inv {t : Bool} {x : DV} (r : XR Z h M (.bool t) x) : x = .bool t := by cases r; rfl
theorem XR.int_inv {k : IntKind} {n : Int} {x : DV} (r : XR Z h M (.int k n) x) : x = .int k n := by cases r; rfl
theorem XR.nils_inv {x : DV} (r : XR Z h M .nils x) : x = .nils := by cases r; rfl
theorem XR.agg_inv {l : List VV} {x : DV} (r : XR Z h M (.agg l) x) : ∃ l', x = .agg l' ∧ XRs Z h M l l' := by cases r; exact ⟨_, rfl, ‹_›⟩
theorem XR.tup_inv {l : List VV} {x : DV} (r : XR Z h M (.tup l) x) : ∃ l', x = .tup l' ∧ XRs Z h M l l' := by cases r; exact ⟨_, rfl, ‹_›⟩
theorem XR.var_inv {l : List VV} {x : DV} (r : XR Z h M (.var l) x) : ∃ l', x = .var l' ∧ XRs Z h M l l' := by cases r; exact ⟨_, rfl, ‹_›⟩
theorem XR.fld_inv {p : P} {o : Nat} {x : DV} (r : XR Z h M (.fld p o) x) : x = .fld p o := by cases r; rfl
theorem XR.fn_inv {f : P} {l : List VV} {x : DV} (r : XR Z h M (.fn f l) x) : ∃ l', x = .fn f l' ∧ XRs Z h M l l' := by cases r; exact ⟨_, rfl, ‹_›⟩
theorem XR.fp_inv {l : List VV} {i : Nat} {x : DV} (r : XR Z h M (.fp l i) x) :
    ∃ k o cells, x = .ptr k (o + i) ∧ Z k ∧ objAt k h = some cells ∧ o + l.length ≤ cells.length ∧ XRs Z h none l ((cells.drop o).take l.length) := by cases r; exact ⟨_, _, _, rfl, ‹_›, ‹_›, ‹_›, ‹_›⟩

theorem look_obj {k : P} {o : Nat} {e : Env} {cells : List DV} (hk : objAt k h = some cells) : Dx.look (.ptr k o) e h = some (cells, o) := by
  unfold objAt at hk
  simp only [Dx.look]
  cases h1 : Tr.get? k h with
  | none => rw [h1] at hk; cases hk
  | some b => cases b <;> simp only [h1, Option.some.injEq, reduceCtorEq] at hk ⊢ <;> rw [hk]
theorem look_cells {k : P} {o : Nat} {e : Env} {cells : List DV} (hk : Tr.get? k h = some (.cells cells)) : Dx.look (.ptr k o) e h = some (cells, o) := by
  simp only [Dx.look, hk]
theorem look_var {p : P} {o : Nat} {e : Env} {l : List DV} (hk : Tr.get? p e = some (.var l)) : Dx.look (.fld p o) e h = some (l, o) := by
  simp only [Dx.look, hk]

/-- A block of one's own that is there, as the small machine has it. -/
theorem live_blk {c : Ctx} {d : DS} {g : Gh} (R : RS c s d g) {k m : Nat} {ob : VOb} (hl : live s.h k m = some ob) :
    ∃ r, hget s.h k = some ob ∧ ob.cells.length = m ∧ g.μ k = some r ∧ Blk g.Z d.h (mm s.nx s.h g) ob r := by
  obtain ⟨h1, h2⟩ := live_some hl
  obtain ⟨_, r, h3, h4⟩ := R.hp.blk k ob h1
  exact ⟨r, h1, h2, h3, h4⟩
theorem pt_blk {c : Ctx} {d : DS} {g : Gh} (R : RS c s d g) {k m o : Nat} {ob : VOb} {x : DV} (hl : live s.h k m = some ob) (hx : XR g.Z d.h (mm s.nx s.h g) (.pt k m o) x) :
    ∃ r b q cells, x = .ptr b (q + o) ∧ hget s.h k = some ob ∧ ob.cells.length = m ∧ g.μ k = some r ∧ refAt r = some (b, q) ∧ Blk g.Z d.h (mm s.nx s.h g) ob r ∧
      Tr.get? b d.h = some (.cells cells) ∧ q + m ≤ cells.length ∧ XRs g.Z d.h (ob.m (mm s.nx s.h g)) ob.cells ((cells.drop q).take m) := by
  obtain ⟨r, h1, h2, h3, h4⟩ := live_blk R hl
  cases hx with
  | pt hd hk hf =>
    obtain ⟨_, h5⟩ := hf _ _ (mof_eq h1 h3)
    obtain ⟨b, q, h6, rfl⟩ := h5 h2
    obtain ⟨cells, h7, h8, h9⟩ := h4.read h6
    rw [h2] at h8 h9
    exact ⟨r, b, q, cells, rfl, h1, h2, h3, h6, h4, h7, h8, h9⟩
theorem ow_blk {c : Ctx} {d : DS} {g : Gh} (R : RS c s d g) {k n sz : Nat} {ob : VOb} {x : DV} (hl : live s.h k (n * sz) = some ob) (hx : XR g.Z d.h (mm s.nx s.h g) (.ow k n sz) x) :
    hget s.h k = some ob ∧ ob.cells.length = n * sz ∧ g.μ k = some x ∧ Blk g.Z d.h (mm s.nx s.h g) ob x ∧ ((x = .nils ∧ n = 0) ∨ ∃ b o c, x = .sl b o n c sz) := by
  obtain ⟨r, h1, h2, h3, h4⟩ := live_blk R hl
  cases hx with
  | ow hd hk hf =>
    obtain ⟨_, h5⟩ := hf _ _ (mof_eq h1 h3)
    obtain ⟨rfl, h6⟩ := h5 h2
    exact ⟨h1, h2, h3, h4, h6⟩

theorem os_blk {c : Ctx} {d : DS} {g : Gh} (R : RS c s d g) {k m o n sz : Nat} {ob : VOb} {x : DV} (hl : live s.h k m = some ob) (hx : XR g.Z d.h (mm s.nx s.h g) (.os k m o n sz) x) :
    (x = .nils ∧ n = 0 ∧ g.μ k = some .nils) ∨ ∃ r b q cp cells, x = .sl b (q + o) n cp sz ∧ hget s.h k = some ob ∧ ob.cells.length = m ∧ g.μ k = some r ∧ refAt r = some (b, q) ∧ Blk g.Z d.h (mm s.nx s.h g) ob r ∧
      Tr.get? b d.h = some (.cells cells) ∧ q + m ≤ cells.length ∧ XRs g.Z d.h (ob.m (mm s.nx s.h g)) ob.cells ((cells.drop q).take m) := by
  obtain ⟨r, h1, h2, h3, h4⟩ := live_blk R hl
  cases hx with
  | os hd hk hf =>
    obtain ⟨_, h5⟩ := hf _ _ (mof_eq h1 h3)
    rcases h5 h2 with ⟨rfl, rfl, rfl⟩ | ⟨b, q, cp, h6, rfl⟩
    · exact .inl ⟨rfl, rfl, h3⟩
    · obtain ⟨cells, h7, h8, h9⟩ := h4.read h6
      rw [h2] at h8 h9
      exact .inr ⟨r, b, q, cp, cells, rfl, h1, h2, h3, h6, h4, h7, h8, h9⟩

/-! ### Values -/

theorem s_mv {a : Opd} (H : wI F (.mv a) s K) : ISem F (.mv a) s K := by
  intro c d g R
  simp only [wI] at H
  cases ha : vev a s.e with
  | none => simp only [ha] at H
  | some v =>
    simp only [ha] at H
    refine isem_val R H (vev_sound R.env ha) fun n k => ?_
    show evK a d.e (fun v => k d.e v d.nx d.h) = _
    rw [evK_eq]
theorem s_pick {cc a b : Opd} (H : wI F (.pick cc a b) s K) : ISem F (.pick cc a b) s K := by
  intro c d g R
  simp only [wI] at H
  cases hc : vev cc s.e with
  | none => simp only [hc] at H
  | some v =>
    cases v <;> simp only [hc] at H
    rename_i t
    have hx := (vev_sound R.env hc).bool_inv
    cases t with
    | true =>
      have H := H.1 rfl
      cases ha : vev a s.e with
      | none => simp only [ha] at H
      | some v =>
        simp only [ha] at H
        refine isem_val R H (vev_sound R.env ha) fun n k => ?_
        show asB (ev cc d.e) .fail (fun t => Bool.rec (motive := fun _ => Res) (evK b d.e fun v => k d.e v d.nx d.h) (evK a d.e fun v => k d.e v d.nx d.h) t) = _
        rw [hx]
        show evK a d.e (fun v => k d.e v d.nx d.h) = _
        rw [evK_eq]
    | false =>
      have H := H.2 rfl
      cases ha : vev b s.e with
      | none => simp only [ha] at H
      | some v =>
        simp only [ha] at H
        refine isem_val R H (vev_sound R.env ha) fun n k => ?_
        show asB (ev cc d.e) .fail (fun t => Bool.rec (motive := fun _ => Res) (evK b d.e fun v => k d.e v d.nx d.h) (evK a d.e fun v => k d.e v d.nx d.h) t) = _
        rw [hx]
        show evK b d.e (fun v => k d.e v d.nx d.h) = _
        rw [evK_eq]
theorem s_bld {z : List DV} {ps : List (Nat × Nat × Opd)} (H : wI F (.bld z ps) s K) : ISem F (.bld z ps) s K := by
  intro c d g R
  simp only [wI] at H
  cases hz : ofDVs z with
  | none => simp only [hz] at H
  | some z' =>
    simp only [hz] at H
    cases hf : vfills s.e ps z' with
    | none => simp only [hf] at H
    | some l =>
      simp only [hf] at H
      obtain ⟨l', h1, h2⟩ := vfills_sound R.env (ofDVs_sound hz) hf
      refine isem_val R H (.agg h2) fun n k => ?_
      show fillK ps z d.e (fun l => k d.e (.agg l) d.nx d.h) = _
      rw [fillK_eq, h1]
theorem s_fa {o : Nat} {a : Opd} (H : wI F (.fa o a) s K) : ISem F (.fa o a) s K := by
  intro c d g R
  simp only [wI] at H
  have run : ∀ (b : P) (q : Nat) (n : Nat) (k : Kv), ev a d.e = .ptr b q → insK (.fa o a) F (exec F n) c.wm d.e d.nx d.h k = k d.e (.ptr b (q + o)) d.nx d.h := by
    intro b q n k hx
    show asP (ev a d.e) (asFl (ev a d.e) .fail fun p i => forceN (Nat.add i o) fun i => k d.e (.fld p i) d.nx d.h) (fun b i => forceN (Nat.add i o) fun i => k d.e (.ptr b i) d.nx d.h) = _
    rw [hx, asP_eq]
    show forceN (Nat.add q o) (fun i => k d.e (.ptr b i) d.nx d.h) = _
    rw [forceN_eq]; rfl
  cases ha : vev a s.e with
  | none => simp only [ha] at H
  | some v =>
    have hv := vev_sound R.env ha
    cases v <;> simp only [ha] at H
    case fp l i =>
      obtain ⟨k0, q, cells, hx, hz, hk, ho, hl⟩ := hv.fp_inv
      have h1 : XR g.Z d.h (mm s.nx s.h g) (.fp l (i + o)) (.ptr k0 (q + i + o)) := by rw [Nat.add_assoc]; exact .fp hz hk ho hl
      exact isem_val R H h1 fun n k => run _ _ n k hx
    case pt k m i =>
      cases hl : live s.h k m with
      | none => simp only [hl] at H
      | some ob =>
        simp only [hl] at H
        obtain ⟨r, b, q, cells, hx, h1, h2, h3, h4, h5, h6, h7, h8⟩ := pt_blk R hl hv
        refine isem_val R H (x := .ptr b (q + i + o)) ?_ fun n k => run _ _ n k hx
        exact .pt ⟨_, _, rfl⟩ (R.hp.blk k ob h1).1 fun m' r' e => by
          rw [mof_eq h1 h3] at e; cases e
          exact ⟨by omega, fun _ => ⟨b, q, h4, by rw [Nat.add_assoc]⟩⟩
    case fld p i =>
      have hx := hv.fld_inv
      refine isem_val R H (.fld _ _) fun n k => ?_
      show asP (ev a d.e) (asFl (ev a d.e) .fail fun p i => forceN (Nat.add i o) fun i => k d.e (.fld p i) d.nx d.h) (fun b i => forceN (Nat.add i o) fun i => k d.e (.ptr b i) d.nx d.h) = _
      rw [hx, asP_eq]
      show asFl (.fld p i) .fail (fun p i => forceN (Nat.add i o) fun i => k d.e (.fld p i) d.nx d.h) = _
      rw [asFl_eq]
      show forceN (Nat.add i o) (fun i => k d.e (.fld p i) d.nx d.h) = _
      rw [forceN_eq]; rfl

theorem s_ld {a : Opd} (H : wI F (.ld a) s K) : ISem F (.ld a) s K := by
  intro c d g R
  simp only [wI] at H
  have run : ∀ (l : List DV) (o : Nat) (v : DV) (n : Nat) (k : Kv), Dx.look (ev a d.e) d.e d.h = some (l, o) → l[o]? = some v → insK (.ld a) F (exec F n) c.wm d.e d.nx d.h k = k d.e v d.nx d.h := by
    intro l o v n k hx hv
    show readK (ev a d.e) d.e d.h .fail (fun l o => nthK l o .fail fun v => fV v fun v => k d.e v d.nx d.h) = _
    rw [readK_eq, hx]
    show nthK l o .fail (fun v => fV v fun v => k d.e v d.nx d.h) = _
    rw [nthK_eq, hv]
    show fV v (fun v => k d.e v d.nx d.h) = _
    rw [fV_eq]
  cases ha : vev a s.e with
  | none => simp only [ha] at H
  | some v =>
    have hv := vev_sound R.env ha
    cases v <;> simp only [ha] at H
    case fp l i =>
      obtain ⟨k0, q, cells, hx, hz, hk, ho, hl⟩ := hv.fp_inv
      cases hi : l[i]? with
      | none => simp only [hi] at H
      | some u =>
        simp only [hi] at H
        obtain ⟨y, h1, h2⟩ := hl.get i u hi
        exact isem_val R H h2.none_any fun n k => run _ _ _ n k (by rw [hx]; exact look_obj hk) (cut_get h1)
    case pt k m i =>
      cases hl : live s.h k m with
      | none => simp only [hl] at H
      | some ob =>
        simp only [hl] at H
        obtain ⟨r, b, q, cells, hx, h1, h2, h3, h4, h5, h6, h7, h8⟩ := pt_blk R hl hv
        cases hi : ob.cells[i]? with
        | none => simp only [hi] at H
        | some u =>
          simp only [hi] at H
          obtain ⟨y, h9, h10⟩ := (VOb.m_any h8).get i u hi
          exact isem_val R H h10 fun n k => run _ _ _ n k (by rw [hx]; exact look_cells h6) (cut_get h9)
    case fld p i =>
      have hx := hv.fld_inv
      cases hp : Tr.get? p s.e with
      | none => simp only [hp] at H
      | some u =>
        cases u <;> simp only [hp] at H
        rename_i l
        obtain ⟨y, hy, hxy⟩ := R.env.get hp
        obtain ⟨l', rfl, hl⟩ := hxy.var_inv
        cases hi : l[i]? with
        | none => simp only [hi] at H
        | some u =>
          simp only [hi] at H
          obtain ⟨y, h9, h10⟩ := hl.get i u hi
          exact isem_val R H h10 fun n k => run _ _ _ n k (by rw [hx]; exact look_var hy) h9
theorem s_lda {n0 : Nat} {a : Opd} (H : wI F (.lda n0 a) s K) : ISem F (.lda n0 a) s K := by
  intro c d g R
  simp only [wI] at H
  have run : ∀ (l : List DV) (o : Nat) (n : Nat) (k : Kv), Dx.look (ev a d.e) d.e d.h = some (l, o) → o + n0 ≤ l.length → insK (.lda n0 a) F (exec F n) c.wm d.e d.nx d.h k = k d.e (.agg ((l.drop o).take n0)) d.nx d.h := by
    intro l o n k hx hv
    show readK (ev a d.e) d.e d.h .fail (fun l o => dropK o l .fail fun t => takeK n0 t .fail fun r => k d.e (.agg r) d.nx d.h) = _
    rw [readK_eq, hx]
    show dropK o l .fail (fun t => takeK n0 t .fail fun r => k d.e (.agg r) d.nx d.h) = _
    rw [dropK_eq, if_pos (by omega), takeK_eq, if_pos (by rw [List.length_drop]; omega)]
  cases ha : vev a s.e with
  | none => simp only [ha] at H
  | some v =>
    have hv := vev_sound R.env ha
    cases v <;> simp only [ha] at H
    case fp l i =>
      obtain ⟨k0, q, cells, hx, hz, hk, ho, hl⟩ := hv.fp_inv
      refine isem_val R H.2 ?_ fun n k => run _ _ n k (by rw [hx]; exact look_obj hk) (by omega)
      refine .agg ?_
      have := (hl.drop i).take n0
      rw [cut_cut _ (by omega)] at this
      exact this.none_any
    case pt k m i =>
      cases hl : live s.h k m with
      | none => simp only [hl] at H
      | some ob =>
        simp only [hl] at H
        obtain ⟨r, b, q, cells, hx, h1, h2, h3, h4, h5, h6, h7, h8⟩ := pt_blk R hl hv
        refine isem_val R H.2 ?_ fun n k => run _ _ n k (by rw [hx]; exact look_cells h6) (by omega)
        refine .agg ?_
        have := ((VOb.m_any h8).drop i).take n0
        rw [cut_cut _ (by omega)] at this
        exact this
    case fld p i =>
      have hx := hv.fld_inv
      cases hp : Tr.get? p s.e with
      | none => simp only [hp] at H
      | some u =>
        cases u <;> simp only [hp] at H
        rename_i l
        obtain ⟨y, hy, hxy⟩ := R.env.get hp
        obtain ⟨l', rfl, hl⟩ := hxy.var_inv
        refine isem_val R H.2 (.agg ((hl.drop i).take n0)) fun n k => run _ _ n k (by rw [hx]; exact look_var hy) (by rw [← hl.length]; exact H.1)

theorem s_nc {a : Opd} (H : wI F (.nc a) s K) : ISem F (.nc a) s K := by
  intro c d g R
  simp only [wI] at H
  have run : ∀ (n : Nat) (k : Kv), (match ev a d.e with | .unk => False | .nilp => False | .nilf => False | .nili => False | .var _ => False | _ => True) → insK (.nc a) F (exec F n) c.wm d.e d.nx d.h k = k d.e (ev a d.e) d.nx d.h := by
    intro n k hx
    show solid (ev a d.e) .fail (fun v => k d.e v d.nx d.h) = _
    rw [solid_eq]
    cases he : ev a d.e <;> rw [he] at hx <;> first | rfl | exact hx.elim
  cases ha : vev a s.e with
  | none => simp only [ha] at H
  | some v =>
    have hv := vev_sound R.env ha
    cases v <;> simp only [ha] at H
    case fp l i =>
      obtain ⟨k0, q, cells, hx, hz, hk, ho, hl⟩ := hv.fp_inv
      exact isem_val R H hv fun n k => run n k (by rw [hx]; trivial)
    case pt k m i =>
      cases hl : live s.h k m with
      | none => simp only [hl] at H
      | some ob =>
        simp only [hl] at H
        obtain ⟨r, b, q, cells, hx, _⟩ := pt_blk R hl hv
        exact isem_val R H hv fun n k => run n k (by rw [hx]; trivial)
    case fld p i => exact isem_val R H hv fun n k => run n k (by rw [hv.fld_inv]; trivial)
    case fn f cs =>
      obtain ⟨l', hx, _⟩ := hv.fn_inv
      exact isem_val R H hv fun n k => run n k (by rw [hx]; trivial)

theorem s_int {j : IntKind} {v : VV} (hv : ∃ n, v = .int j n) : XR Z h M v (match v with | .int j n => .int j n | _ => .unk) := by
  obtain ⟨n, rfl⟩ := hv; exact .int _ _
theorem sameK_self (k : IntKind) : sameK k k = true := by cases k <;> rfl
theorem s_bin {b : Bo} {x y : Opd} (H : wI F (.bin b x y) s K) : ISem F (.bin b x y) s K := by
  intro c d g R
  simp only [wI] at H
  cases hx : vev x s.e with
  | none => simp only [hx] at H
  | some v =>
    cases v <;> simp only [hx] at H
    rename_i j n
    cases hy : vev y s.e with
    | none => simp only [hy] at H
    | some v =>
      cases v <;> simp only [hy] at H
      rename_i j' m
      obtain ⟨rfl, H⟩ := H
      have e1 := (vev_sound R.env hx).int_inv
      have e2 := (vev_sound R.env hy).int_inv
      have run : ∀ (nn : Nat) (k : Kv), insK (.bin b x y) F (exec F nn) c.wm d.e d.nx d.h k = binK b j n m fun v => k d.e v d.nx d.h := by
        intro nn k
        show asI (ev x d.e) .fail (bin1 b (ev y d.e) fun v => k d.e v d.nx d.h) = _
        rw [e1, e2, asI_eq]
        show asI (.int j m) .fail (bin2 b j n fun v => k d.e v d.nx d.h) = _
        rw [asI_eq]
        show chk (sameK j j) (fun _ => binK b j n m fun v => k d.e v d.nx d.h) = _
        rw [chk_eq, if_pos (sameK_self j)]
      cases b <;> simp only [wBin] at H
      · exact isem_val R H (.int _ _) fun nn k => by rw [run]; show mkI j (iadd n m) _ = _; rw [mkI_eq, iadd_eq]
      · exact isem_val R H (.int _ _) fun nn k => by rw [run]; show mkI j (iadd n (ineg m)) _ = _; rw [mkI_eq, iadd_eq, ineg_eq]; rfl
      · exact isem_val R H (.int _ _) fun nn k => by rw [run]; show mkI j (imul n m) _ = _; rw [mkI_eq, imul_eq]
      · refine isem_val R H.2 (.int _ _) fun nn k => ?_
        rw [run]; show Bool.rec (motive := fun _ => Res) (mkI j (idiv n m) _) .fail (ieq m (.ofNat (nat_lit 0))) = _
        rw [ieq_eq]
        have : decide (m = Int.ofNat 0) = false := by simpa using H.1
        rw [this]; show mkI j (idiv n m) _ = _; rw [mkI_eq, idiv_eq]
      · refine isem_val R H.2 (.int _ _) fun nn k => ?_
        rw [run]; show Bool.rec (motive := fun _ => Res) (mkI2 j (imod n m) _) .fail (ieq m (.ofNat (nat_lit 0))) = _
        rw [ieq_eq]
        have : decide (m = Int.ofNat 0) = false := by simpa using H.1
        rw [this]; show mkI2 j (imod n m) _ = _; unfold mkI2; rw [forceI_eq, imod_eq]
      · exact isem_val R H (.bool _) fun nn k => by rw [run]; show bl (ieq n m) (fun v => k d.e v d.nx d.h) = _; rw [bl_eq, ieq_eq]
      · exact isem_val R H (.bool _) fun nn k => by rw [run]; show blN (ieq n m) (fun v => k d.e v d.nx d.h) = _; rw [blN_eq, ieq_eq]
      · exact isem_val R H (.bool _) fun nn k => by rw [run]; show bl (ilt n m) (fun v => k d.e v d.nx d.h) = _; rw [bl_eq, ilt_eq]
      · exact isem_val R H (.bool _) fun nn k => by
          rw [run]; show blN (ilt m n) (fun v => k d.e v d.nx d.h) = _; rw [blN_eq, ilt_eq]
          congr 2; rw [← decide_not]; congr 1; simp
      · exact isem_val R H (.bool _) fun nn k => by rw [run]; show bl (ilt m n) (fun v => k d.e v d.nx d.h) = _; rw [bl_eq, ilt_eq]
      · exact isem_val R H (.bool _) fun nn k => by
          rw [run]; show blN (ilt n m) (fun v => k d.e v d.nx d.h) = _; rw [blN_eq, ilt_eq]
          congr 2; rw [← decide_not]; congr 1; simp
theorem veqs_sound : ∀ {ks : List Bool} {a b : List VV} {a' b' : List DV} {t : Bool}, veqs ks a b = some t → XRs Z h M a a' → XRs Z h M b b' → ∀ (F : Res) (K : Bool → Res), eqsK ks a' b' F K = K t := by
  intro ks
  induction ks with
  | nil =>
    intro a b a' b' t e xa xb F K
    cases a <;> cases b <;> simp only [veqs, reduceCtorEq] at e
    injection e with e; subst e
    cases xa; cases xb; rfl
  | cons k ks ih =>
    intro a b a' b' t e xa xb F K
    cases k with
    | false =>
      cases a with
      | nil => simp [veqs] at e
      | cons v l =>
        cases b with
        | nil => cases v <;> simp [veqs] at e
        | cons u m =>
          cases v <;> cases u <;> simp only [veqs, reduceCtorEq] at e
          rename_i j x j' y
          by_cases hj : j = j'
          · subst hj
            rw [if_pos rfl] at e
            cases he : veqs ks l m with
            | none => simp only [he, reduceCtorEq] at e
            | some t' =>
              simp only [he, Option.some.injEq] at e; subst e
              cases xa with
              | cons h1 t1 =>
                cases xb with
                | cons h2 t2 =>
                  cases h1.int_inv; cases h2.int_inv
                  show eqI (.int j x) (.int j y) F (eqsT (eqsK ks) _ _ F K) = _
                  unfold eqI
                  rw [asI_eq]
                  show asI (.int j y) F (fun j' y => Bool.rec (motive := fun _ => Res) F (eqsT (eqsK ks) _ _ F K (ieq x y)) (sameK j j')) = _
                  rw [asI_eq]
                  show Bool.rec (motive := fun _ => Res) F (eqsT (eqsK ks) _ _ F K (ieq x y)) (sameK j j) = _
                  rw [sameK_self, ieq_eq]
                  show eqsT (eqsK ks) _ _ F K (decide (x = y)) = _
                  by_cases hxy : x = y
                  · rw [decide_eq_true hxy, Bool.true_and]; exact ih he t1 t2 F K
                  · rw [decide_eq_false hxy, Bool.false_and]; rfl
          · rw [if_neg hj] at e; cases e
    | true =>
      cases a with
      | nil => simp [veqs] at e
      | cons v l =>
        cases b with
        | nil => cases v <;> simp [veqs] at e
        | cons u m =>
          cases v <;> cases u <;> simp only [veqs, reduceCtorEq] at e
          rename_i x y
          cases he : veqs ks l m with
          | none => simp only [he, reduceCtorEq] at e
          | some t' =>
            simp only [he, Option.some.injEq] at e; subst e
            cases xa with
            | cons h1 t1 =>
              cases xb with
              | cons h2 t2 =>
                cases h1.bool_inv; cases h2.bool_inv
                show eqsT (eqsK ks) _ _ F K (beqB x y) = _
                cases x <;> cases y <;> first | exact ih he t1 t2 F K | rfl
theorem s_aeq {ks : List Bool} {neg : Bool} {x y : Opd} (H : wI F (.aeq ks neg x y) s K) : ISem F (.aeq ks neg x y) s K := by
  intro c d g R
  simp only [wI] at H
  cases hx : vev x s.e with
  | none => simp only [hx] at H
  | some v =>
    cases v <;> simp only [hx] at H
    rename_i a
    cases hy : vev y s.e with
    | none => simp only [hy] at H
    | some v =>
      cases v <;> simp only [hy] at H
      rename_i b
      cases ht : veqs ks a b with
      | none => simp only [ht] at H
      | some t =>
        simp only [ht] at H
        obtain ⟨a', e1, r1⟩ := (vev_sound R.env hx).agg_inv
        obtain ⟨b', e2, r2⟩ := (vev_sound R.env hy).agg_inv
        refine isem_val R H (.bool _) fun n k => ?_
        show asA (ev x d.e) .fail (fun a => asA (ev y d.e) .fail fun b => eqsK ks a b .fail fun t => negK neg t fun v => k d.e v d.nx d.h) = _
        rw [e1, asA_eq]
        show asA (ev y d.e) .fail (fun b => eqsK ks a' b .fail fun t => negK neg t fun v => k d.e v d.nx d.h) = _
        rw [e2, asA_eq]
        show eqsK ks a' b' .fail (fun t => negK neg t fun v => k d.e v d.nx d.h) = _
        rw [veqs_sound ht r1 r2, negK_eq]
theorem beqB_eq (a b : Bool) : beqB a b = (a == b) := by cases a <;> cases b <;> rfl
theorem s_beq {neg : Bool} {x y : Opd} (H : wI F (.beq neg x y) s K) : ISem F (.beq neg x y) s K := by
  intro c d g R
  simp only [wI] at H
  cases hx : vev x s.e with
  | none => simp only [hx] at H
  | some v =>
    cases v <;> simp only [hx] at H
    rename_i a
    cases hy : vev y s.e with
    | none => simp only [hy] at H
    | some v =>
      cases v <;> simp only [hy] at H
      rename_i b
      have e1 := (vev_sound R.env hx).bool_inv
      have e2 := (vev_sound R.env hy).bool_inv
      refine isem_val R H (.bool _) fun n k => ?_
      show asB (ev x d.e) .fail (fun a => asB (ev y d.e) .fail fun b => negK neg (beqB a b) fun v => k d.e v d.nx d.h) = _
      rw [e1, e2, asB_eq]
      show asB (.bool b) .fail (fun b => negK neg (beqB a b) fun v => k d.e v d.nx d.h) = _
      rw [asB_eq]
      show negK neg (beqB a b) (fun v => k d.e v d.nx d.h) = _
      rw [negK_eq, beqB_eq]
theorem s_isnil {neg : Bool} {x : Opd} (H : wI F (.isnil neg x) s K) : ISem F (.isnil neg x) s K := by
  intro c d g R
  simp only [wI] at H
  have r1 : ∀ (n : Nat) (k : Kv), ev x d.e = .nils → insK (.isnil neg x) F (exec F n) c.wm d.e d.nx d.h k = k d.e (.bool (neg != true)) d.nx d.h := by
    intro n k e
    show asSl (ev x d.e) (nilsK (ev x d.e) .fail fun _ => negK neg true fun v => k d.e v d.nx d.h) (fun _ _ _ _ _ => negK neg false fun v => k d.e v d.nx d.h) = _
    rw [e]; show negK neg true (fun v => k d.e v d.nx d.h) = _; rw [negK_eq]
  have r2 : ∀ (n : Nat) (k : Kv) (b : P) (o m : Nat) (cp : Option Nat) (sz : Nat), ev x d.e = .sl b o m cp sz → insK (.isnil neg x) F (exec F n) c.wm d.e d.nx d.h k = k d.e (.bool (neg != false)) d.nx d.h := by
    intro n k b o m cp sz e
    show asSl (ev x d.e) (nilsK (ev x d.e) .fail fun _ => negK neg true fun v => k d.e v d.nx d.h) (fun _ _ _ _ _ => negK neg false fun v => k d.e v d.nx d.h) = _
    rw [e]; show negK neg false (fun v => k d.e v d.nx d.h) = _; rw [negK_eq]
  cases hx : vev x s.e with
  | none => simp only [hx] at H
  | some v =>
    have hv := vev_sound R.env hx
    cases v <;> simp only [hx] at H
    case nils => exact isem_val R H (.bool _) fun n k => r1 n k hv.nils_inv
    case fz n cp sz l =>
      rcases hv.fz_cells with ⟨e, h1, _⟩ | ⟨k0, o, c', cells, e, _⟩
      · exact isem_val R (H true fun _ => h1) (.bool _) fun n k => r1 n k e
      · exact isem_val R (H false (fun h => by cases h)) (.bool _) fun n k => r2 n k _ _ _ _ _ e
    case ow k0 n sz =>
      cases hl : live s.h k0 (n * sz) with
      | none => simp only [hl] at H
      | some ob =>
        simp only [hl] at H
        obtain ⟨h1, h2, h3, h4, h5⟩ := ow_blk R hl hv
        rcases h5 with ⟨e, rfl⟩ | ⟨b, o, cp, e⟩
        · exact isem_val R (H true fun _ => by simpa using h2) (.bool _) fun n k => r1 n k e
        · exact isem_val R (H false (fun h => by cases h)) (.bool _) fun n k => r2 n k _ _ _ _ _ e
theorem s_neg {a : Opd} (H : wI F (.neg a) s K) : ISem F (.neg a) s K := by
  intro c d g R
  simp only [wI] at H
  cases hx : vev a s.e with
  | none => simp only [hx] at H
  | some v =>
    cases v <;> simp only [hx] at H
    have e1 := (vev_sound R.env hx).int_inv
    refine isem_val R H (.int _ _) fun n k => ?_
    show asI (ev a d.e) .fail (fun j x => mkI j (ineg x) fun v => k d.e v d.nx d.h) = _
    rw [e1, asI_eq]; show mkI _ (ineg _) _ = _; rw [mkI_eq, ineg_eq]
theorem s_shr {x y : Opd} (H : wI F (.shr x y) s K) : ISem F (.shr x y) s K := by
  intro c d g R
  simp only [wI] at H
  cases hx : vev x s.e with
  | none => simp only [hx] at H
  | some v =>
    cases v <;> simp only [hx] at H
    rename_i j a
    cases hy : vev y s.e with
    | none => simp only [hy] at H
    | some v =>
      cases v <;> simp only [hy] at H
      rename_i j' b
      obtain ⟨⟨h1, h2⟩, H⟩ := H
      have e1 := (vev_sound R.env hx).int_inv
      have e2 := (vev_sound R.env hy).int_inv
      refine isem_val R H (.int _ _) fun n k => ?_
      show asI (ev x d.e) .fail (fun j a => asI (ev y d.e) .fail fun _ n => natI n (shrN j a fun v => k d.e v d.nx d.h)) = _
      rw [e1, asI_eq]
      show asI (ev y d.e) .fail (fun _ n => natI n (shrN j a fun v => k d.e v d.nx d.h)) = _
      rw [e2, asI_eq]
      show natI b (shrN j a fun v => k d.e v d.nx d.h) = _
      rw [natI_eq, if_pos h1]
      show chk (Nat.ble b.toNat (bitsK j)) (fun _ => mkI2 j (ishr a b.toNat) fun v => k d.e v d.nx d.h) = _
      rw [chk_eq, bitsK_eq, if_pos (by rw [Nat.ble_eq]; exact h2), ishr_eq]
      exact forceI_eq _ _
theorem s_not {a : Opd} (H : wI F (.not a) s K) : ISem F (.not a) s K := by
  intro c d g R
  simp only [wI] at H
  cases hx : vev a s.e with
  | none => simp only [hx] at H
  | some v =>
    cases v <;> simp only [hx] at H
    have e1 := (vev_sound R.env hx).bool_inv
    refine isem_val R H (.bool _) fun n k => ?_
    show asB (ev a d.e) .fail (fun b => blN b fun v => k d.e v d.nx d.h) = _
    rw [e1, asB_eq]; show blN _ _ = _; rw [blN_eq]
theorem s_cv {j : IntKind} {a : Opd} (H : wI F (.cv j a) s K) : ISem F (.cv j a) s K := by
  intro c d g R
  simp only [wI] at H
  cases hx : vev a s.e with
  | none => simp only [hx] at H
  | some v =>
    cases v <;> simp only [hx] at H
    have e1 := (vev_sound R.env hx).int_inv
    refine isem_val R H (.int _ _) fun n k => ?_
    show asI (ev a d.e) .fail (fun _ x => mkI j x fun v => k d.e v d.nx d.h) = _
    rw [e1, asI_eq]; show mkI _ _ _ = _; rw [mkI_eq]
theorem s_mfn {f : P} {cs : List Opd} (H : wI F (.mfn f cs) s K) : ISem F (.mfn f cs) s K := by
  intro c d g R
  simp only [wI] at H
  cases hx : vovs cs s.e with
  | none => simp only [hx] at H
  | some vs =>
    simp only [hx] at H
    refine isem_val R H (.fn (vovs_sound R.env hx)) fun n k => ?_
    show ovsK cs d.e (fun vs => k d.e (.fn f vs) d.nx d.h) = _
    rw [ovsK_eq]
theorem s_fi {o : Nat} {a : Opd} (H : wI F (.fi o a) s K) : ISem F (.fi o a) s K := by
  intro c d g R
  simp only [wI] at H
  cases hx : vev a s.e with
  | none => simp only [hx] at H
  | some v =>
    cases v <;> simp only [hx] at H
    rename_i l
    obtain ⟨l', e1, r1⟩ := (vev_sound R.env hx).agg_inv
    cases hi : l[o]? with
    | none => simp only [hi] at H
    | some u =>
      simp only [hi] at H
      obtain ⟨y, h1, h2⟩ := r1.get o u hi
      refine isem_val R H h2 fun n k => ?_
      show asA (ev a d.e) .fail (fun l => nthK l o .fail fun v => fV v fun v => k d.e v d.nx d.h) = _
      rw [e1, asA_eq]; show nthK l' o .fail (fun v => fV v fun v => k d.e v d.nx d.h) = _
      rw [nthK_eq, h1]; show fV y (fun v => k d.e v d.nx d.h) = _; rw [fV_eq]
theorem s_fia {o n0 : Nat} {a : Opd} (H : wI F (.fia o n0 a) s K) : ISem F (.fia o n0 a) s K := by
  intro c d g R
  simp only [wI] at H
  cases hx : vev a s.e with
  | none => simp only [hx] at H
  | some v =>
    cases v <;> simp only [hx] at H
    rename_i l
    obtain ⟨l', e1, r1⟩ := (vev_sound R.env hx).agg_inv
    have hle := r1.length
    refine isem_val R H.2 (.agg ((r1.drop o).take n0)) fun n k => ?_
    show asA (ev a d.e) .fail (fun l => dropK o l .fail fun t => takeK n0 t .fail fun r => k d.e (.agg r) d.nx d.h) = _
    rw [e1, asA_eq]; show dropK o l' .fail (fun t => takeK n0 t .fail fun r => k d.e (.agg r) d.nx d.h) = _
    rw [dropK_eq, if_pos (by omega), takeK_eq, if_pos (by rw [List.length_drop]; omega)]
theorem s_ex {a : Opd} {i : Nat} (H : wI F (.ex a i) s K) : ISem F (.ex a i) s K := by
  intro c d g R
  simp only [wI] at H
  cases hx : vev a s.e with
  | none => simp only [hx] at H
  | some v =>
    cases v <;> simp only [hx] at H
    rename_i l
    obtain ⟨l', e1, r1⟩ := (vev_sound R.env hx).tup_inv
    cases hi : l[i]? with
    | none => simp only [hi] at H
    | some u =>
      simp only [hi] at H
      obtain ⟨y, h1, h2⟩ := r1.get i u hi
      refine isem_val R H h2 fun n k => ?_
      show asT (ev a d.e) .fail (fun l => nthK l i .fail fun v => fV v fun v => k d.e v d.nx d.h) = _
      rw [e1, asT_eq]; show nthK l' i .fail (fun v => fV v fun v => k d.e v d.nx d.h) = _
      rw [nthK_eq, h1]; show fV y (fun v => k d.e v d.nx d.h) = _; rw [fV_eq]
theorem s_len {a : Opd} (H : wI F (.len a) s K) : ISem F (.len a) s K := by
  intro c d g R
  simp only [wI] at H
  have r1 : ∀ (n : Nat) (k : Kv), ev a d.e = .nils → insK (.len a) F (exec F n) c.wm d.e d.nx d.h k = k d.e (.int .i64 0) d.nx d.h := by
    intro n k e
    show asSl (ev a d.e) (nilsK (ev a d.e) .fail fun _ => lenOf (nat_lit 0) d.e d.nx d.h k) (fun _ _ n _ _ => lenOf n d.e d.nx d.h k) = _
    rw [e]; show forceN 0 (fun n => k d.e (.int .i64 (.ofNat n)) d.nx d.h) = _; rw [forceN_eq]; rfl
  have r2 : ∀ (n : Nat) (k : Kv) (b : P) (o m : Nat) (cp : Option Nat) (sz : Nat), ev a d.e = .sl b o m cp sz → insK (.len a) F (exec F n) c.wm d.e d.nx d.h k = k d.e (.int .i64 m) d.nx d.h := by
    intro n k b o m cp sz e
    show asSl (ev a d.e) (nilsK (ev a d.e) .fail fun _ => lenOf (nat_lit 0) d.e d.nx d.h k) (fun _ _ n _ _ => lenOf n d.e d.nx d.h k) = _
    rw [e]; show forceN m (fun n => k d.e (.int .i64 (.ofNat n)) d.nx d.h) = _; rw [forceN_eq]; rfl
  cases hx : vev a s.e with
  | none => simp only [hx] at H
  | some v =>
    have hv := vev_sound R.env hx
    cases v <;> simp only [hx] at H
    case nils => exact isem_val R H (.int _ _) fun n k => r1 n k hv.nils_inv
    case fz n cp sz l =>
      rcases hv.fz_cells with ⟨e, rfl, _⟩ | ⟨k0, o, c', cells, e, _⟩
      · exact isem_val R H (.int _ _) fun n k => r1 n k e
      · exact isem_val R H (.int _ _) fun n k => r2 n k _ _ _ _ _ e
    case ow k0 n sz =>
      cases hl : live s.h k0 (n * sz) with
      | none => simp only [hl] at H; exact H.2.elim
      | some ob =>
        simp only [hl] at H
        obtain ⟨h1, h2, h3, h4, h5⟩ := ow_blk R hl hv
        rcases h5 with ⟨e, rfl⟩ | ⟨b, o, cp, e⟩
        · exact isem_val R H.2 (.int _ _) fun n k => r1 n k e
        · exact isem_val R H.2 (.int _ _) fun n k => r2 n k _ _ _ _ _ e
    case os k0 m o n sz =>
      cases hl : live s.h k0 m with
      | none => simp only [hl] at H
      | some ob =>
        simp only [hl] at H
        rcases os_blk R hl hv with ⟨e, rfl, _⟩ | ⟨r, b, q, cp, cells, e, _⟩
        · exact isem_val R H (.int _ _) fun n k => r1 n k e
        · exact isem_val R H (.int _ _) fun n k => r2 n k _ _ _ _ _ e
theorem s_cap {a : Opd} (H : wI F (.cap a) s K) : ISem F (.cap a) s K := by
  intro c d g R
  simp only [wI] at H
  have r1 : ∀ (n : Nat) (k : Kv), ev a d.e = .nils → insK (.cap a) F (exec F n) c.wm d.e d.nx d.h k = k d.e (.int .i64 0) d.nx d.h := by
    intro n k e
    show asSl (ev a d.e) (nilsK (ev a d.e) .fail fun _ => lenOf (nat_lit 0) d.e d.nx d.h k) (fun _ _ _ c _ => Option.rec (motive := fun _ => Res) .fail (fun c => lenOf c d.e d.nx d.h k) c) = _
    rw [e]; show forceN 0 (fun n => k d.e (.int .i64 (.ofNat n)) d.nx d.h) = _; rw [forceN_eq]; rfl
  cases hx : vev a s.e with
  | none => simp only [hx] at H
  | some v =>
    have hv := vev_sound R.env hx
    cases v <;> simp only [hx] at H
    case nils => exact isem_val R H (.int _ _) fun n k => r1 n k hv.nils_inv
    case fz n cp sz l =>
      cases cp with
      | none => exact H.elim
      | some cp =>
        simp only at H
        rcases hv.fz_cells with ⟨e, rfl, _, h1⟩ | ⟨k0, o, c', cells, e, _, _, _, _, _, h1, _⟩
        · rcases h1 with h1 | h1
          · cases h1
          · cases h1; exact isem_val R H (.int _ _) fun n k => r1 n k e
        · refine isem_val R H (.int _ _) fun n k => ?_
          show asSl (ev a d.e) (nilsK (ev a d.e) .fail fun _ => lenOf (nat_lit 0) d.e d.nx d.h k) (fun _ _ _ c _ => Option.rec (motive := fun _ => Res) .fail (fun c => lenOf c d.e d.nx d.h k) c) = _
          rw [e, h1 cp rfl]; show forceN cp (fun n => k d.e (.int .i64 (.ofNat n)) d.nx d.h) = _; rw [forceN_eq]; rfl
theorem vmx_sound {e : VEnv} {d : Env} (x : EnvR Z h M e d) : ∀ {l : List Opd} {j : IntKind} {a r : Int}, vmx l j a e = some r → ∀ (K : IntKind → Int → Res), mxK l j a d K = K j r
  | [], j, a, r, hv, K => by simp only [vmx, Option.some.injEq] at hv; subst hv; rfl
  | o :: l, j, a, r, hv, K => by
    simp only [vmx] at hv
    cases h1 : vev o e with
    | none => simp only [h1, reduceCtorEq] at hv
    | some v =>
      cases v <;> simp only [h1, reduceCtorEq] at hv
      rename_i j' y
      by_cases hj : j' = j
      · subst hj
        rw [if_pos rfl] at hv
        have e2 := (vev_sound x h1).int_inv
        show asI (ev o d) .fail (fun j y => chk (sameK j' j) fun _ => mxB j' a y (fun k x => mxK l k x d K) (ilt a y)) = _
        rw [e2, asI_eq]
        show chk (sameK j' j') (fun _ => mxB j' a y (fun k x => mxK l k x d K) (ilt a y)) = _
        rw [chk_eq, if_pos (sameK_self _), ilt_eq]
        by_cases hlt : a < y
        · rw [decide_eq_true hlt]; show mxK l j' y d K = _
          rw [Int.max_eq_right (by omega)] at hv; exact vmx_sound x hv K
        · rw [decide_eq_false hlt]; show mxK l j' a d K = _
          rw [Int.max_eq_left (by omega)] at hv; exact vmx_sound x hv K
      · rw [if_neg hj] at hv; cases hv
theorem vmn_sound {e : VEnv} {d : Env} (x : EnvR Z h M e d) : ∀ {l : List Opd} {j : IntKind} {a r : Int}, vmn l j a e = some r → ∀ (K : IntKind → Int → Res), mnK l j a d K = K j r
  | [], j, a, r, hv, K => by simp only [vmn, Option.some.injEq] at hv; subst hv; rfl
  | o :: l, j, a, r, hv, K => by
    simp only [vmn] at hv
    cases h1 : vev o e with
    | none => simp only [h1, reduceCtorEq] at hv
    | some v =>
      cases v <;> simp only [h1, reduceCtorEq] at hv
      rename_i j' y
      by_cases hj : j' = j
      · subst hj
        rw [if_pos rfl] at hv
        have e2 := (vev_sound x h1).int_inv
        show asI (ev o d) .fail (fun j y => chk (sameK j' j) fun _ => mxB j' a y (fun k x => mnK l k x d K) (ilt y a)) = _
        rw [e2, asI_eq]
        show chk (sameK j' j') (fun _ => mxB j' a y (fun k x => mnK l k x d K) (ilt y a)) = _
        rw [chk_eq, if_pos (sameK_self _), ilt_eq]
        by_cases hlt : y < a
        · rw [decide_eq_true hlt]; show mnK l j' y d K = _
          rw [Int.min_eq_right (by omega)] at hv; exact vmn_sound x hv K
        · rw [decide_eq_false hlt]; show mnK l j' a d K = _
          rw [Int.min_eq_left (by omega)] at hv; exact vmn_sound x hv K
      · rw [if_neg hj] at hv; cases hv
theorem s_mx {a : Opd} {l : List Opd} (H : wI F (.mx a l) s K) : ISem F (.mx a l) s K := by
  intro c d g R
  simp only [wI] at H
  cases hx : vev a s.e with
  | none => simp only [hx] at H
  | some v =>
    cases v <;> simp only [hx] at H
    rename_i j x
    cases hm : vmx l j x s.e with
    | none => simp only [hm] at H
    | some r =>
      simp only [hm] at H
      have e1 := (vev_sound R.env hx).int_inv
      refine isem_val R H (.int _ _) fun n k => ?_
      show asI (ev a d.e) .fail (fun j x => mxK l j x d.e fun j x => k d.e (.int j x) d.nx d.h) = _
      rw [e1, asI_eq]; show mxK l j x d.e (fun j x => k d.e (.int j x) d.nx d.h) = _
      rw [vmx_sound R.env hm]
theorem s_mn {a : Opd} {l : List Opd} (H : wI F (.mn a l) s K) : ISem F (.mn a l) s K := by
  intro c d g R
  simp only [wI] at H
  cases hx : vev a s.e with
  | none => simp only [hx] at H
  | some v =>
    cases v <;> simp only [hx] at H
    rename_i j x
    cases hm : vmn l j x s.e with
    | none => simp only [hm] at H
    | some r =>
      simp only [hm] at H
      have e1 := (vev_sound R.env hx).int_inv
      refine isem_val R H (.int _ _) fun n k => ?_
      show asI (ev a d.e) .fail (fun j x => mnK l j x d.e fun j x => k d.e (.int j x) d.nx d.h) = _
      rw [e1, asI_eq]; show mnK l j x d.e (fun j x => k d.e (.int j x) d.nx d.h) = _
      rw [vmn_sound R.env hm]
end
end Go.Proofs.Ythdlkpmhjbaplaa.Dx
