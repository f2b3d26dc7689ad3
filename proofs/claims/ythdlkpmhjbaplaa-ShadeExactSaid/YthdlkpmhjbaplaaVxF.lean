/- The value machine: instructions that write and extend blocks of one's own; all instructions. No statement of this seat is proved here. -/
import Derived.Test.YthdlkpmhjbaplaaVxE
set_option autoImplicit false
set_option linter.unusedVariables false
namespace Go.Proofs.Ythdlkpmhjbaplaa.Dx
open Go

theorem spl_length (l : List VV) (o : Nat) (c : List VV) (h : o + c.length ≤ l.length) : (spl l o c).length = l.length := by
  unfold spl; rw [List.length_append, List.length_append, List.length_take, List.length_drop]; omega
theorem splD_length {α : Type} (l : List α) (o : Nat) (c : List α) (h : o + c.length ≤ l.length) : (l.take o ++ c ++ l.drop (o + c.length)).length = l.length := by
  rw [List.length_append, List.length_append, List.length_take, List.length_drop]; omega
/-- What is written within a part of a row. -/
theorem spl_cut {α : Type} (l : List α) (q n o : Nat) (c : List α) (h : o + c.length ≤ n) (hn : q + n ≤ l.length) :
    ((l.take (q + o) ++ c ++ l.drop (q + o + c.length)).drop q).take n = ((l.drop q).take n).take o ++ c ++ ((l.drop q).take n).drop (o + c.length) := by
  apply List.ext_getElem?
  intro i
  rw [List.getElem?_take, List.getElem?_drop, List.getElem?_append, List.getElem?_append, List.getElem?_append, List.getElem?_append]
  simp only [List.length_append, List.length_take, List.length_drop, List.getElem?_take, List.getElem?_drop]
  by_cases h1 : i < n
  · rw [if_pos h1]
    by_cases h2 : i < o
    · rw [if_pos (by omega), if_pos (by omega), if_pos (by omega), if_pos (by omega), if_pos (by omega), if_pos (by omega), if_pos (by omega)]
    · by_cases h3 : i < o + c.length
      · rw [if_pos (by omega), if_neg (by omega), if_pos (by omega), if_neg (by omega)]
        congr 1; omega
      · rw [if_neg (by omega), if_neg (by omega), if_pos (by omega)]
        congr 1; omega
  · rw [if_neg h1]
    by_cases h3 : i < o + c.length
    · omega
    · rw [if_neg (by omega), if_neg (by omega)]

section
variable {F : Tr Fd} {s : VSt} {K : VSt → VV → Prop}

theorem wOk_pos {wm : Option P} {b : P} (h : ∀ m, wm = some m → m.n ≤ b.n) (F : Res) (K : Unit → Res) : wOk wm b F K = K () := by rw [wOk_eq]; exact if_pos h

theorem s_st {n0 : Nat} {a v : Opd} (H : wI F (.st n0 a v) s K) : ISem F (.st n0 a v) s K := by
  intro c d g R
  simp only [wI] at H
  cases hv : vov v s.e with
  | none => simp only [hv] at H
  | some u =>
    simp only [hv] at H
    cases hc : vcells u with
    | none => simp only [hc] at H
    | some l =>
      simp only [hc] at H
      obtain ⟨hlen, H⟩ := H
      obtain ⟨l', h1, h2⟩ := vcells_sound (vov_sound R.env hv) hc
      have hl2 := h2.length
      have run : ∀ (n : Nat) (k : Kv), insK (.st n0 a v) F (exec F n) c.wm d.e d.nx d.h k = asP (ev a d.e) (asFl (ev a d.e) .fail (stF d.e d.nx d.h k l')) (stP c.wm d.e d.nx d.h k l') := by
        intro n k
        show ovK v d.e (fun v => cellsK v .fail fun c0 => chk (isLen c0 n0) fun _ => asP (ev a d.e) (asFl (ev a d.e) .fail (stF d.e d.nx d.h k c0)) (stP c.wm d.e d.nx d.h k c0)) = _
        rw [ovK_eq, cellsK_eq, h1]
        show chk (isLen l' n0) (fun _ => asP (ev a d.e) (asFl (ev a d.e) .fail (stF d.e d.nx d.h k l')) (stP c.wm d.e d.nx d.h k l')) = _
        rw [chk_eq, isLen_eq, if_pos (by rw [decide_eq_true_eq]; omega)]
      cases ha : vev a s.e with
      | none => simp only [ha] at H
      | some u =>
        have hx := vev_sound R.env ha
        cases u <;> simp only [ha] at H
        case fld p o =>
          cases hp : Tr.get? p s.e with
          | none => simp only [hp] at H
          | some y =>
            cases y <;> simp only [hp] at H
            rename_i z
            obtain ⟨y, hy, hxy⟩ := R.env.get hp
            obtain ⟨z', rfl, hz⟩ := hxy.var_inv
            have hzl := hz.length
            refine ⟨⟨Tr.set p s.e (some (.var (spl z o l))), s.nx, s.w, s.h⟩, .tup [], ⟨Tr.set p d.e (some (.var (z'.take o ++ l' ++ z'.drop (o + l'.length)))), d.nx, d.h⟩, .tup [], g, ⟨0, fun n _ k => ?_⟩, ⟨R.env.set (.var (hz.spl h2 o)), R.hp⟩, rfl, .tup .nil, Evo.refl _ _ _ _ _, H.2⟩
            rw [run, hx.fld_inv]
            show stF d.e d.nx d.h k l' p o = _
            show varK p d.e .fail (fun l => sprK o l l' .fail fun l => Tr.setK p d.e (some (.var l)) fun e => k e (.tup []) d.nx d.h) = _
            rw [varK_eq, hy]
            show sprK o z' l' .fail (fun l => Tr.setK p d.e (some (.var l)) fun e => k e (.tup []) d.nx d.h) = _
            rw [sprK_eq, if_pos (by omega), Tr.setK_eq]
        case pt k0 m o =>
          obtain ⟨hw, H⟩ := H
          have main : ∀ (ob ob' : VOb), live s.h k0 m = some ob → ob'.cells = spl ob.cells o l → o + l.length ≤ ob.cells.length →
              (∀ M Z h, XRs Z h M l l' → XRs Z h (ob'.m M) l l') → (∀ M, ob'.m M = ob.m M) → K ⟨s.e, s.nx, s.w, hset s.h k0 ob'⟩ (.tup []) → ∃ s' v' d' x g', IRun F (.st n0 a v) c d d' x ∧ RS c s' d' g' ∧ s'.w = s.w ∧ XR g'.Z d'.h (mm s'.nx s'.h g') v' x ∧ EvoS s d g s' d' g' ∧ K s' v' := by
            intro ob ob' hl hob hle hpu hme hK
            obtain ⟨r, b, q, cells, hxx, e1, e2, e3, e4, e5, e6, e7, e8⟩ := pt_blk R hl hx
            have hlen2 : ob'.cells.length = ob.cells.length := by rw [hob]; exact spl_length _ _ _ hle
            have hmay := (R.hp.own k0 ob r b q e1 e3 e4).2.2 hw
            have hdlen : q + o + l'.length ≤ cells.length := by omega
            obtain ⟨R1, E1⟩ := R.hp.renew (ob' := ob') (r' := r) (dnx' := d.nx) (dh' := Tr.set b d.h (some (.cells (cells.take (q + o) ++ l' ++ cells.drop (q + o + l'.length))))) e1 e3 (by omega) (fun _ => rfl)
              (fun a ha hne => Tr.get_set_ne (hne b q e4) _ _)
              (fun a ha => by
                have hb := R.hp.lt e1 e3 e4
                rw [Tr.get_set_ne (by rintro rfl; omega)]; exact R.hp.top a ha)
              (Nat.le_refl _) (fun b' q' h => .inr ⟨q', h⟩)
              (fun ho hm => by
                have hnew : XRs g.Z (Tr.set b d.h (some (.cells (cells.take (q + o) ++ l' ++ cells.drop (q + o + l'.length))))) (ob'.m (mm s.nx (hset s.h k0 ob') ⟨g.Z, upd g.μ k0 r⟩)) ob'.cells
                    (((cells.take (q + o) ++ l' ++ cells.drop (q + o + l'.length)).drop q).take ob'.cells.length) := by
                  rw [hlen2, e2, spl_cut _ _ _ _ _ (by omega) (by omega), hob]
                  refine XRs.spl ?_ (hpu _ _ _ (XRs.mono (fun _ h => h) ho hm h2)) o
                  rw [hme]
                  exact XRs.mono (fun _ h => h) ho (ob.m_le hm) e8
                rcases e5 with ⟨rfl, _⟩ | ⟨b1, q1, n1, cp, sz, cells1, rfl, a1, a2, a3, a4, a5⟩ | ⟨b1, q1, cells1, rfl, a1, a3, a5⟩
                · cases e4
                · cases e4
                  rw [e6] at a1; cases a1
                  exact .inr (.inl ⟨b, q, n1, cp, sz, _, rfl, Tr.get_set_self _ _ _, by omega, by rw [splD_length _ _ _ hdlen]; omega, fun c h => by rw [splD_length _ _ _ hdlen]; exact a4 c h, hnew⟩)
                · cases e4
                  exact .inr (.inr ⟨b, q, _, rfl, Tr.get_set_self _ _ _, by rw [splD_length _ _ _ hdlen]; omega, hnew⟩))
            refine ⟨⟨s.e, s.nx, s.w, hset s.h k0 ob'⟩, .tup [], ⟨d.e, d.nx, Tr.set b d.h (some (.cells (cells.take (q + o) ++ l' ++ cells.drop (q + o + l'.length))))⟩, .tup [], ⟨g.Z, upd g.μ k0 r⟩, ⟨0, fun n _ k => ?_⟩, ⟨E1.env R.env, R1⟩, rfl, .tup .nil, E1, hK⟩
            rw [run, hxx, asP_eq]
            show wOk c.wm b .fail (fun _ => ownK b d.h .fail fun l => sprK (q + o) l l' .fail fun l => Tr.setK b d.h (some (.cells l)) fun h => k d.e (.tup []) d.nx h) = _
            rw [wOk_pos hmay, ownK_eq, e6]
            show sprK (q + o) cells l' .fail (fun l => Tr.setK b d.h (some (.cells l)) fun h => k d.e (.tup []) d.nx h) = _
            rw [sprK_eq, if_pos hdlen, Tr.setK_eq]
          cases hl : live s.h k0 m with
          | none => simp only [hl] at H
          | some ob =>
            cases ob with
            | row z =>
              simp only [hl] at H
              exact main (.row z) (.row (spl z o l)) hl rfl H.1 (fun M Z h x => x.pure H.2.1) (fun M => rfl) H.2.2
            | obj z =>
              simp only [hl] at H
              exact main (.obj z) (.obj (spl z o l)) hl rfl H.1 (fun M Z h x => x) (fun M => rfl) H.2

theorem hset_same {h : VHp} {k : Nat} {o : VOb} (hk : hget h k = some o) : hset h k o = h := by
  induction h with
  | nil => cases hk
  | cons a t ih =>
    obtain ⟨j, o'⟩ := a
    simp only [hget] at hk
    simp only [hset]
    by_cases hj : k = j
    · subst hj; rw [if_pos rfl] at hk; cases hk; rw [if_pos rfl]
    · rw [if_neg hj] at hk; rw [if_neg hj, ih hk]
theorem s_clr {sz : Nat} {z : List DV} {a : Opd} (H : wI F (.clr sz z a) s K) : ISem F (.clr sz z a) s K := by
  intro c d g R
  simp only [wI] at H
  cases hz : ofDVs z with
  | none => simp only [hz] at H
  | some zv =>
    simp only [hz] at H
    cases ha : vev a s.e with
    | none => simp only [ha] at H
    | some u =>
      have hx := vev_sound R.env ha
      cases u <;> simp only [ha] at H
      rename_i k0 m o n sz'
      obtain ⟨hw, H⟩ := H
      cases hl : live s.h k0 m with
      | none => simp only [hl] at H
      | some ob =>
        cases ob with
        | obj l => simp only [hl] at H
        | row l =>
          simp only [hl] at H
          obtain ⟨⟨hzl, rfl⟩, hle, hpz, H⟩ := H
          have hzs : ∀ {Z : P → Prop} {h : Hp} {M : Option MM}, XRs Z h M zv z := ofDVs_sound hz
          have hlz : z.length = sz' := by rw [← hzl]; exact (hzs (Z := fun _ => True) (h := .nl) (M := none)).length.symm
          have hreps : ∀ {Z : P → Prop} {h : Hp} {M : Option MM}, XRs Z h M (reps' zv n) (reps z n) := XRs.reps hzs n
          have hrl : (reps' zv n).length = n * sz' := by unfold reps'; rw [reps_len, hzl]
          have hrl' : (reps z n).length = n * sz' := by unfold reps; rw [reps_len, hlz]
          have nothing : ∀ x, ev a d.e = x → (x = .nils ∨ ∃ b q cp, x = .sl b q 0 cp sz') → n = 0 → ∃ s' v' d' x g', IRun F (.clr sz' z a) c d d' x ∧ RS c s' d' g' ∧ s'.w = s.w ∧ XR g'.Z d'.h (mm s'.nx s'.h g') v' x ∧ EvoS s d g s' d' g' ∧ K s' v' := by
            intro x e hxs h0
            subst h0
            have e0 : hset s.h k0 (.row (spl l o (reps' zv 0))) = s.h := by
              have : spl l o (reps' zv 0) = l := by simp [spl, reps']
              rw [this]; exact hset_same (live_some hl).1
            rw [e0] at H
            refine isem_val R H (x := .tup []) (.tup .nil) fun nn k => ?_
            show asSl (ev a d.e) (nilsK (ev a d.e) .fail fun _ => k d.e (.tup []) d.nx d.h) (fun b o n _ s => chk (Nat.beq s sz') fun _ => chk (isLen z sz') fun _ =>
              Bool.rec (motive := fun _ => Res) (clrB c.wm z d.e d.nx d.h k b o n) (k d.e (.tup []) d.nx d.h) (Nat.beq n (nat_lit 0))) = _
            rw [e, asSl_eq, nilsK_eq]
            rcases hxs with rfl | ⟨b, q, cp, rfl⟩
            · rfl
            · show chk (Nat.beq sz' sz') (fun _ => chk (isLen z sz') fun _ => k d.e (.tup []) d.nx d.h) = _
              rw [chk_eq, if_pos (by simp), chk_eq, isLen_eq, if_pos (by simpa using hlz)]
          rcases os_blk R hl hx with ⟨e, h0, _⟩ | ⟨r, b, q, cp, cells, hxx, e1, e2, e3, e4, e5, e6, e7, e8⟩
          · exact nothing _ e (.inl rfl) h0
          rcases Nat.eq_zero_or_pos n with h0 | hn
          · subst h0; exact nothing _ hxx (.inr ⟨_, _, _, rfl⟩) rfl
          have e2' : l.length = m := e2
          have hlen2 : (VOb.row (spl l o (reps' zv n))).cells.length = (VOb.row l).cells.length := spl_length _ _ _ (by rw [hrl]; exact hle)
          have hmay := (R.hp.own k0 _ r b q e1 e3 e4).2.2 hw
          have hdlen : q + o + (reps z n).length ≤ cells.length := by rw [hrl']; omega
          obtain ⟨R1, E1⟩ := R.hp.renew (ob' := .row (spl l o (reps' zv n))) (r' := r) (dnx' := d.nx) (dh' := Tr.set b d.h (some (.cells (cells.take (q + o) ++ reps z n ++ cells.drop (q + o + (reps z n).length))))) e1 e3 (by omega) (fun _ => rfl)
            (fun a ha hne => Tr.get_set_ne (hne b q e4) _ _)
            (fun a ha => by
              have hb := R.hp.lt e1 e3 e4
              rw [Tr.get_set_ne (by rintro rfl; omega)]; exact R.hp.top a ha)
            (Nat.le_refl _) (fun b' q' h => .inr ⟨q', h⟩)
            (fun ho hm => by
              have hnew : XRs g.Z (Tr.set b d.h (some (.cells (cells.take (q + o) ++ reps z n ++ cells.drop (q + o + (reps z n).length))))) none (spl l o (reps' zv n))
                  (((cells.take (q + o) ++ reps z n ++ cells.drop (q + o + (reps z n).length)).drop q).take (spl l o (reps' zv n)).length) := by
                have h8 : (spl l o (reps' zv n)).length = m := by have := hlen2; exact this.trans e2
                rw [h8, spl_cut _ _ _ _ _ (by omega) (by omega)]
                exact XRs.spl (XRs.mono (M := none) (M' := none) (fun _ h => h) ho trivial e8) hreps o
              rcases e5 with ⟨rfl, _⟩ | ⟨b1, q1, n1, cp, sz, cells1, rfl, a1, a2, a3, a4, a5⟩ | ⟨b1, q1, cells1, rfl, a1, a3, a5⟩
              · cases e4
              · cases e4
                rw [e6] at a1; cases a1
                exact .inr (.inl ⟨b, q, n1, cp, sz, _, rfl, Tr.get_set_self _ _ _, by omega, by rw [splD_length _ _ _ hdlen]; omega, fun c h => by rw [splD_length _ _ _ hdlen]; exact a4 c h, hnew⟩)
              · cases e4
                exact .inr (.inr ⟨b, q, _, rfl, Tr.get_set_self _ _ _, by rw [splD_length _ _ _ hdlen]; omega, hnew⟩))
          refine ⟨⟨s.e, s.nx, s.w, hset s.h k0 (.row (spl l o (reps' zv n)))⟩, .tup [], ⟨d.e, d.nx, Tr.set b d.h (some (.cells (cells.take (q + o) ++ reps z n ++ cells.drop (q + o + (reps z n).length))))⟩, .tup [], ⟨g.Z, upd g.μ k0 r⟩, ⟨0, fun nn _ k => ?_⟩, ⟨E1.env R.env, R1⟩, rfl, .tup .nil, E1, H⟩
          obtain ⟨n', rfl⟩ : ∃ n', n = n' + 1 := ⟨n - 1, by omega⟩
          show asSl (ev a d.e) (nilsK (ev a d.e) .fail fun _ => k d.e (.tup []) d.nx d.h) (fun b o n _ s => chk (Nat.beq s sz') fun _ => chk (isLen z sz') fun _ =>
            Bool.rec (motive := fun _ => Res) (clrB c.wm z d.e d.nx d.h k b o n) (k d.e (.tup []) d.nx d.h) (Nat.beq n (nat_lit 0))) = _
          rw [hxx, asSl_eq]
          show chk (Nat.beq sz' sz') (fun _ => chk (isLen z sz') fun _ => clrB c.wm z d.e d.nx d.h k b (q + o) (n' + 1)) = _
          rw [chk_eq, if_pos (by simp), chk_eq, isLen_eq, if_pos (by simpa using hlz)]
          unfold clrB
          rw [wOk_pos hmay, ownK_eq, e6]
          show repZ z (n' + 1) (fun c0 => sprK (q + o) cells c0 .fail fun l => Tr.setK b d.h (some (.cells l)) fun h => k d.e (.tup []) d.nx h) = _
          rw [repZ_eq, sprK_eq, if_pos hdlen, Tr.setK_eq]

theorem s_ia {sz : Nat} {a i : Opd} (H : wI F (.ia sz a i) s K) : ISem F (.ia sz a i) s K := by
  intro c d g R
  simp only [wI] at H
  have run : ∀ (b : P) (o n : Nat) (cp : Option Nat) (j : IntKind) (x : Nat) (nn : Nat) (k : Kv), ev a d.e = .sl b o n cp sz → ev i d.e = .int j x → x < n → insK (.ia sz a i) F (exec F nn) c.wm d.e d.nx d.h k = k d.e (.ptr b (o + x * sz)) d.nx d.h := by
    intro b o n cp j x nn k e1 e2 hlt
    show asSl (ev a d.e) .fail (fun b o n _ s => chk (Nat.beq s sz) fun _ => asI (ev i d.e) .fail fun _ x => natI x (iaAt sz d.e d.nx d.h k b o n)) = _
    rw [e1, asSl_eq]
    show chk (Nat.beq sz sz) (fun _ => asI (ev i d.e) .fail fun _ x => natI x (iaAt sz d.e d.nx d.h k b o n)) = _
    rw [chk_eq, if_pos (by simp), e2, asI_eq]
    show natI (x : Int) (iaAt sz d.e d.nx d.h k b o n) = _
    rw [natI_eq, if_pos (by omega), Int.toNat_natCast]
    show chk (Nat.ble (Nat.succ x) n) (fun _ => forceN (Nat.add o (Nat.mul x sz)) fun i => k d.e (.ptr b i) d.nx d.h) = _
    rw [chk_eq, if_pos (by rw [Nat.ble_eq]; omega), forceN_eq]; rfl
  cases ha : vev a s.e with
  | none => simp only [ha] at H
  | some v =>
    have hv := vev_sound R.env ha
    cases v <;> simp only [ha] at H
    case fz n cp sz' l =>
      cases hi : vev i s.e with
      | none => simp only [hi] at H
      | some v =>
        cases v <;> simp only [hi] at H
        rename_i j x
        obtain ⟨rfl, ⟨h1, h2⟩, H⟩ := H
        have e2 := (vev_sound R.env hi).int_inv
        obtain ⟨x, rfl⟩ : ∃ q : Nat, x = q := ⟨x.toNat, by omega⟩
        rw [Int.toNat_natCast] at H
        rcases hv.fz_cells with ⟨e, h3, _⟩ | ⟨k0, o, c', cells, e, h3, h4, h5, h6, h7, h8, h9⟩
        · omega
        · refine isem_val R H (x := .ptr k0 (o + x * sz')) ?_ fun nn k => run _ _ _ _ _ _ nn k e e2 (by omega)
          exact .fp h4 h5 (by rw [h3]; exact h6) (by rw [h3]; exact h7)
    case ow k0 n sz' =>
      cases hi : vev i s.e with
      | none => simp only [hi] at H
      | some v =>
        cases v <;> simp only [hi] at H
        rename_i j x
        obtain ⟨rfl, hsz, ⟨h1, h2⟩, H⟩ := H
        have e2 := (vev_sound R.env hi).int_inv
        obtain ⟨x, rfl⟩ : ∃ q : Nat, x = q := ⟨x.toNat, by omega⟩
        rw [Int.toNat_natCast] at H
        cases hl : live s.h k0 (n * sz') with
        | none => simp only [hl] at H
        | some ob =>
          simp only [hl] at H
          obtain ⟨h3, h4, h5, h6, h7⟩ := ow_blk R hl hv
          rcases h7 with ⟨e, rfl⟩ | ⟨b, o, cp, e⟩
          · omega
          · refine isem_val R H (x := .ptr b (o + x * sz')) ?_ fun nn k => run _ _ _ _ _ _ nn k e e2 (by omega)
            exact .pt ⟨_, _, rfl⟩ (R.hp.blk k0 ob h3).1 fun m' r' e' => by
              rw [mof_eq h3 h5] at e'; cases e'
              exact ⟨by omega, fun _ => ⟨b, o, by rw [e]; rfl, rfl⟩⟩
    case os k0 m o n sz' =>
      cases hi : vev i s.e with
      | none => simp only [hi] at H
      | some v =>
        cases v <;> simp only [hi] at H
        rename_i j x
        obtain ⟨rfl, ⟨h1, h2⟩, H⟩ := H
        have e2 := (vev_sound R.env hi).int_inv
        obtain ⟨x, rfl⟩ : ∃ q : Nat, x = q := ⟨x.toNat, by omega⟩
        rw [Int.toNat_natCast] at H
        cases hl : live s.h k0 m with
        | none => simp only [hl] at H
        | some ob =>
          simp only [hl] at H
          rcases os_blk R hl hv with ⟨e, rfl, _⟩ | ⟨r, b, q, cp, cells, e, e3, e4, e5, e6, _⟩
          · omega
          · refine isem_val R H (x := .ptr b (q + (o + x * sz'))) ?_ fun nn k => by rw [run _ _ _ _ _ _ nn k e e2 (by omega), Nat.add_assoc]
            exact .pt ⟨_, _, rfl⟩ (R.hp.blk k0 ob e3).1 fun m' r' e' => by
              rw [mof_eq e3 e5] at e'; cases e'
              exact ⟨by omega, fun _ => ⟨b, q, e6, rfl⟩⟩

theorem wBd_sound {Z : P → Prop} {h : Hp} {M : Option MM} {e : VEnv} {d : Env} (x : EnvR Z h M e d) {o : Option Opd} {d0 : Nat} {G : Int → Prop} (H : wBd o d0 e G) :
    ∃ v : Int, G v ∧ ∀ y : Nat, (0 ≤ v ∧ v ≤ y) → ∀ K : Nat → Res, bd o d0 d y K = K v.toNat := by
  cases o with
  | none => exact ⟨d0, H, fun y _ K => by show K d0 = _; rw [Int.toNat_natCast]⟩
  | some o =>
    simp only [wBd] at H
    cases h1 : vev o e with
    | none => simp only [h1] at H
    | some v =>
      cases v <;> simp only [h1] at H
      rename_i j v
      refine ⟨v, H, fun y hy K => ?_⟩
      have e1 := (vev_sound x h1).int_inv
      show asI (ev o d) .fail (fun _ x => natI x fun i => chk (Nat.ble i y) fun _ => K i) = _
      rw [e1, asI_eq]
      show natI v (fun i => chk (Nat.ble i y) fun _ => K i) = _
      rw [natI_eq, if_pos hy.1, chk_eq, if_pos (by rw [Nat.ble_eq]; omega)]
theorem vsub_len {l : List VV} {n sz a b : Nat} (hl : l.length = n * sz) (h1 : a ≤ b) (h2 : b ≤ n) : (vsub l sz a b).length = (b - a) * sz := by
  unfold vsub
  rw [List.length_take, List.length_drop, hl]
  have h3 : a * sz + (b - a) * sz = b * sz := by rw [← Nat.add_mul]; congr 1; omega
  have h4 : b * sz ≤ n * sz := Nat.mul_le_mul_right _ h2
  omega
theorem cut_sub {α : Type} (l : List α) {q n sz a b : Nat} (h1 : a ≤ b) (h2 : b ≤ n) : (((l.drop q).take (n * sz)).drop (a * sz)).take ((b - a) * sz) = (l.drop (q + a * sz)).take ((b - a) * sz) := by
  refine cut_cut l ?_
  have h3 : a * sz + (b - a) * sz = b * sz := by rw [← Nat.add_mul]; congr 1; omega
  have h4 : b * sz ≤ n * sz := Nat.mul_le_mul_right _ h2
  omega
theorem mul_sub_le {a b n sz : Nat} (h1 : a ≤ b) (h2 : b ≤ n) : a * sz + (b - a) * sz ≤ n * sz := by
  rw [← Nat.add_mul]; exact Nat.mul_le_mul_right _ (by omega)

theorem s_sla {sz : Nat} {x : Opd} {lo hi mx : Option Opd} (H : wI F (.sla sz x lo hi mx) s K) : ISem F (.sla sz x lo hi mx) s K := by
  intro c d g R
  simp only [wI] at H
  have run0 : ∀ (n : Nat) (k : Kv), ev x d.e = .nils → insK (.sla sz x lo hi mx) F (exec F n) c.wm d.e d.nx d.h k =
      bd hi 0 d.e 0 fun _ => bd lo 0 d.e 0 fun _ => bd mx 0 d.e 0 fun _ => k d.e .nils d.nx d.h := by
    intro n k e
    show asSl (ev x d.e) (nilsK (ev x d.e) .fail fun _ => bd hi (nat_lit 0) d.e (nat_lit 0) fun _ => bd lo (nat_lit 0) d.e (nat_lit 0) fun _ => bd mx (nat_lit 0) d.e (nat_lit 0) fun _ => evK x d.e fun v => k d.e v d.nx d.h) (slSl sz lo hi mx d.e d.nx d.h k) = _
    rw [asSl_eq, nilsK_eq, e]
    simp only [evK_eq, e]
  have run1 : ∀ (n : Nat) (k : Kv) (b : P) (o m : Nat) (cp : Option Nat), ev x d.e = .sl b o m cp sz → insK (.sla sz x lo hi mx) F (exec F n) c.wm d.e d.nx d.h k = slSl sz lo hi mx d.e d.nx d.h k b o m cp sz := by
    intro n k b o m cp e
    show asSl (ev x d.e) (nilsK (ev x d.e) .fail fun _ => bd hi (nat_lit 0) d.e (nat_lit 0) fun _ => bd lo (nat_lit 0) d.e (nat_lit 0) fun _ => bd mx (nat_lit 0) d.e (nat_lit 0) fun _ => evK x d.e fun v => k d.e v d.nx d.h) (slSl sz lo hi mx d.e d.nx d.h k) = _
    rw [asSl_eq, e]
  have slN : ∀ (k : Kv) (b : P) (o m : Nat) (cp : Option Nat) (x y : Int), (∀ Y : Nat, (0 ≤ y ∧ y ≤ Y) → ∀ K : Nat → Res, bd hi m d.e Y K = K y.toNat) → (∀ Y : Nat, (0 ≤ x ∧ x ≤ Y) → ∀ K : Nat → Res, bd lo 0 d.e Y K = K x.toNat) →
      (0 ≤ x ∧ x ≤ y ∧ y ≤ m) → (∀ c, cp = some c → m ≤ c) → slSl sz lo hi none d.e d.nx d.h k b o m cp sz = k d.e (.sl b (o + x.toNat * sz) (y.toNat - x.toNat) (cp.map (· - x.toNat)) sz) d.nx d.h := by
    intro k b o m cp x y h1 h2 h3 h4
    have hcap : m ≤ capOf cp m := by
      cases cp with
      | none => exact Nat.le_refl _
      | some c => exact h4 c rfl
    show chk (Nat.beq sz sz) (fun _ => bd hi m d.e (capOf cp m) fun hi => bd lo (nat_lit 0) d.e hi fun l =>
      Option.rec (motive := fun _ => Res) (slEnd d.e d.nx d.h k b o sz l hi none) (fun c => forceN (Nat.sub c l) fun c => slEnd d.e d.nx d.h k b o sz l hi (some c)) cp) = _
    rw [chk_eq, if_pos (by simp), h1 _ ⟨by omega, by omega⟩, h2 _ ⟨h3.1, by omega⟩]
    have e0 : ∀ c0, slEnd d.e d.nx d.h k b o sz x.toNat y.toNat c0 = k d.e (.sl b (o + x.toNat * sz) (y.toNat - x.toNat) c0 sz) d.nx d.h := by
      intro c0
      show forceN (Nat.add o (Nat.mul x.toNat sz)) (fun o => forceN (Nat.sub y.toNat x.toNat) fun n => k d.e (.sl b o n c0 sz) d.nx d.h) = _
      rw [forceN_eq, forceN_eq]; rfl
    cases cp with
    | none => exact e0 none
    | some c =>
      show forceN (Nat.sub c x.toNat) (fun c => slEnd d.e d.nx d.h k b o sz x.toNat y.toNat (some c)) = _
      rw [forceN_eq, e0]; rfl
  have slM : ∀ (mo : Opd) (k : Kv) (b : P) (o m : Nat) (cp : Option Nat) (x y z : Int), mx = some mo → (∀ Y : Nat, (0 ≤ z ∧ z ≤ Y) → ∀ K : Nat → Res, bd mx 0 d.e Y K = K z.toNat) → (∀ Y : Nat, (0 ≤ y ∧ y ≤ Y) → ∀ K : Nat → Res, bd hi m d.e Y K = K y.toNat) →
      (∀ Y : Nat, (0 ≤ x ∧ x ≤ Y) → ∀ K : Nat → Res, bd lo 0 d.e Y K = K x.toNat) →
      (0 ≤ x ∧ x ≤ y ∧ y ≤ z ∧ z ≤ m) → (∀ c, cp = some c → m ≤ c) → slSl sz lo hi mx d.e d.nx d.h k b o m cp sz = k d.e (.sl b (o + x.toNat * sz) (y.toNat - x.toNat) (some (z.toNat - x.toNat)) sz) d.nx d.h := by
    intro mo k b o m cp x y z hmx h0 h1 h2 h3 h4
    subst hmx
    have hcap : m ≤ capOf cp m := by
      cases cp with
      | none => exact Nat.le_refl _
      | some c => exact h4 c rfl
    show chk (Nat.beq sz sz) (fun _ => bd (some mo) (nat_lit 0) d.e (capOf cp m) fun m' => bd hi m d.e m' fun hi => chk (Nat.ble hi m') fun _ => bd lo (nat_lit 0) d.e hi fun l =>
      forceN (Nat.sub m' l) fun c => slEnd d.e d.nx d.h k b o sz l hi (some c)) = _
    rw [chk_eq, if_pos (by simp), h0 _ ⟨by omega, by omega⟩, h1 _ ⟨by omega, by omega⟩, chk_eq, if_pos (by rw [Nat.ble_eq]; omega), h2 _ ⟨h3.1, by omega⟩, forceN_eq]
    show forceN (Nat.add o (Nat.mul x.toNat sz)) (fun o => forceN (Nat.sub y.toNat x.toNat) fun n => k d.e (.sl b o n (some (Nat.sub z.toNat x.toNat)) sz) d.nx d.h) = _
    rw [forceN_eq, forceN_eq]; rfl
  cases hx : vev x s.e with
  | none => simp only [hx] at H
  | some v =>
    have hv := vev_sound R.env hx
    cases v <;> simp only [hx] at H
    case nils =>
      obtain ⟨b, ⟨rfl, H⟩, hb⟩ := wBd_sound (d0 := 0) R.env H
      obtain ⟨a, ⟨rfl, H⟩, ha⟩ := wBd_sound (d0 := 0) R.env H
      obtain ⟨m, ⟨rfl, H⟩, hm⟩ := wBd_sound (d0 := 0) R.env H
      refine isem_val R H .nils fun n k => ?_
      rw [run0 n k hv.nils_inv, hb 0 ⟨by omega, by omega⟩, ha 0 ⟨by omega, by omega⟩, hm 0 ⟨by omega, by omega⟩]
    case fz n cp sz' l =>
      obtain ⟨rfl, H⟩ := H
      obtain ⟨b, H, hb⟩ := wBd_sound R.env H
      obtain ⟨a, H, ha⟩ := wBd_sound (d0 := 0) R.env H
      cases hmx : mx with
      | none =>
        subst hmx
        simp only at H
        obtain ⟨h1, H⟩ := H
        rcases hv.fz_cells with ⟨e, rfl, rfl, h3⟩ | ⟨k0, o, c', cells, e, h3, h4, h5, h6, h7, h8, h9⟩
        · have : b = 0 := by omega
          have : a = 0 := by omega
          subst a b
          refine isem_val R H (x := .nils) (by simp only [vsub, List.drop_nil, List.take_nil]; exact .fz0 (.inl rfl)) fun nn k => ?_
          rw [run0 nn k e, hb 0 ⟨by omega, by omega⟩, ha 0 ⟨by omega, by omega⟩]; rfl
        · refine isem_val R H ?_ fun nn k => by rw [run1 nn k _ _ _ _ e]; exact slN k k0 o n c' a b hb ha h1 h9
          refine .fz (vsub_len h3 (by omega) (by omega)) h4 h5 ?_ ?_ (fun _ h => by cases h) ?_
          · have := mul_sub_le (sz := sz') (show a.toNat ≤ b.toNat by omega) (show b.toNat ≤ n by omega); omega
          · have := (h7.drop (a.toNat * sz')).take ((b.toNat - a.toNat) * sz')
            rw [cut_sub _ (by omega) (by omega)] at this; exact this
          · intro y hy
            cases c' with
            | none => cases hy
            | some c' => cases hy; have := h9 c' rfl; change b.toNat - a.toNat ≤ c' - a.toNat; omega
      | some mo =>
        subst hmx
        simp only at H
        obtain ⟨m, ⟨h1, H⟩, hm⟩ := wBd_sound (d0 := 0) R.env H
        rcases hv.fz_cells with ⟨e, rfl, rfl, h3⟩ | ⟨k0, o, c', cells, e, h3, h4, h5, h6, h7, h8, h9⟩
        · have : b = 0 := by omega
          have : a = 0 := by omega
          have : m = 0 := by omega
          subst a b m
          refine isem_val R H (x := .nils) (by simp only [vsub, List.drop_nil, List.take_nil]; exact .fz0 (.inr rfl)) fun nn k => ?_
          rw [run0 nn k e, hb 0 ⟨by omega, by omega⟩, ha 0 ⟨by omega, by omega⟩, hm 0 ⟨by omega, by omega⟩]
        · refine isem_val R H ?_ fun nn k => by rw [run1 nn k _ _ _ _ e]; exact slM mo k k0 o n c' a b m rfl hm hb ha h1 h9
          refine .fz (vsub_len h3 (by omega) (by omega)) h4 h5 ?_ ?_ (fun y h => h) ?_
          · have := mul_sub_le (sz := sz') (show a.toNat ≤ b.toNat by omega) (show b.toNat ≤ n by omega); omega
          · have := (h7.drop (a.toNat * sz')).take ((b.toNat - a.toNat) * sz')
            rw [cut_sub _ (by omega) (by omega)] at this; exact this
          · intro y hy; cases hy; omega
    case ow k0 n sz' =>
      obtain ⟨rfl, rfl, hw, H⟩ := H
      cases hl : live s.h k0 (n * sz') with
      | none => simp only [hl] at H
      | some ob =>
        cases ob with
        | obj l => simp only [hl] at H
        | row l =>
          simp only [hl] at H
          by_cases hpart : hi = none ∧ ∃ lo', lo = some lo'
          · obtain ⟨rfl, lo', rfl⟩ := hpart
            simp only at H
            obtain ⟨a, ⟨h1, H⟩, ha⟩ := wBd_sound (d0 := 0) R.env H
            obtain ⟨e1, e2, e3, e4, e5⟩ := ow_blk R hl hv
            rcases e5 with ⟨e, rfl⟩ | ⟨k1, o, cp, e⟩
            · have : a = 0 := by omega
              subst a
              refine isem_val R H (x := .nils) (.os (.inl rfl) (R.hp.blk k0 _ e1).1 fun m' r' e' => ?_) fun nn k => ?_
              · rw [mof_eq e1 e3] at e'; cases e'
                exact ⟨by omega, fun _ => .inl ⟨e, rfl, rfl⟩⟩
              · rw [run0 nn k e]
                show bd (some lo') 0 d.e 0 (fun _ => k d.e .nils d.nx d.h) = _
                rw [ha 0 ⟨by omega, by omega⟩]
            · refine isem_val R H (x := .sl k1 (o + a.toNat * sz') (n - a.toNat) (cp.map (· - a.toNat)) sz') (.os (.inr ⟨_, _, _, _, _, rfl⟩) (R.hp.blk k0 _ e1).1 fun m' r' e' => ?_) fun nn k => ?_
              · rw [mof_eq e1 e3] at e'; cases e'
                exact ⟨by omega, fun _ => .inr ⟨k1, o, _, by rw [e]; rfl, rfl⟩⟩
              · rw [run1 nn k _ _ _ _ e]
                have hcp : ∀ c, cp = some c → n ≤ c := by
                  rw [e] at e4
                  rcases e4 with ⟨h, _⟩ | ⟨b1, q1, n1, cp1, sz1, cells1, h, a1, a2, a3, a4, a5⟩ | ⟨b1, q1, cells1, h, _⟩
                  · cases h
                  · cases h; exact fun c h => (a4 c h).1
                  · cases h
                exact slN k k1 o n cp a n (fun Y _ K => rfl) ha (by omega) hcp
          have H : wBd hi n s.e fun b => wBd lo 0 s.e fun a => (0 ≤ a ∧ a ≤ b ∧ b ≤ n) ∧ K ⟨s.e, s.nx + 1, s.w, (s.nx, .row (vsub l sz' a.toNat b.toNat)) :: hdel s.h k0⟩ (.ow s.nx (b.toNat - a.toNat) sz') := by
            cases hi with
            | some hi => exact H
            | none => cases lo with
              | none => exact H
              | some lo => exact absurd ⟨rfl, lo, rfl⟩ hpart
          obtain ⟨b, H, hb⟩ := wBd_sound R.env H
          obtain ⟨a, ⟨h1, H⟩, ha⟩ := wBd_sound (d0 := 0) R.env H
          obtain ⟨e1, e2, e3, e4, e5⟩ := ow_blk R hl hv
          have hsl := vsub_len (l := l) (n := n) (sz := sz') (a := a.toNat) (b := b.toNat) e2 (by omega) (by omega)
          have fin : ∀ (r : DV), (∀ (nn : Nat) (k : Kv), insK (.sla sz' x lo hi none) F (exec F nn) c.wm d.e d.nx d.h k = k d.e r d.nx d.h) → (∀ b q, refAt r = some (b, q) → ∃ q', refAt (ev x d.e) = some (b, q')) →
              ((r = .nils ∧ b.toNat - a.toNat = 0) ∨ ∃ k' o' c', r = .sl k' o' (b.toNat - a.toNat) c' sz') → (∀ (Z : P → Prop) (M : Option MM), Z = g.Z → Blk Z d.h M (.row (vsub l sz' a.toNat b.toNat)) r) →
              ∃ s' v' d' x0 g', IRun F (.sla sz' x lo hi none) c d d' x0 ∧ RS c s' d' g' ∧ s'.w = s.w ∧ XR g'.Z d'.h (mm s'.nx s'.h g') v' x0 ∧ EvoS s d g s' d' g' ∧ K s' v' := by
            intro r hrun hre hsh hblk
            obtain ⟨R1, E1⟩ := R.hp.move (ob' := .row (vsub l sz' a.toNat b.toNat)) (r' := r) e1 e3 hw hre (fun _ => hblk _ _ rfl)
            exact ⟨⟨s.e, s.nx + 1, s.w, (s.nx, .row (vsub l sz' a.toNat b.toNat)) :: hdel s.h k0⟩, _, d, r, ⟨g.Z, upd g.μ s.nx r⟩, ⟨0, fun nn _ k => hrun nn k⟩, ⟨E1.env R.env, R1⟩, rfl, xr_ow_new hsl hsh, E1, H⟩
          rcases e5 with ⟨e, rfl⟩ | ⟨k1, o, cp, e⟩
          · have : b = 0 := by omega
            have : a = 0 := by omega
            subst a b
            refine fin .nils (fun nn k => ?_) (fun b q h => by cases h) (.inl ⟨rfl, rfl⟩) (fun Z M _ => .inl ⟨rfl, ?_⟩)
            · rw [run0 nn k e, hb 0 ⟨by omega, by omega⟩, ha 0 ⟨by omega, by omega⟩]; rfl
            · simp [vsub]
          · rw [e] at e4
            rcases e4 with ⟨h, _⟩ | ⟨b1, q1, n1, cp1, sz1, cells1, h, a1, a2, a3, a4, a5⟩ | ⟨b1, q1, cells1, h, _⟩
            · cases h
            · cases h
              have hlen : (VOb.row l).cells.length = n * sz' := e2
              rw [hlen] at a5
              refine fin (.sl k1 (o + a.toNat * sz') (b.toNat - a.toNat) (cp.map (· - a.toNat)) sz') (fun nn k => ?_) (fun b q h => ?_) (.inr ⟨_, _, _, rfl⟩) (fun Z M hZ => ?_)
              · rw [run1 nn k _ _ _ _ e]; exact slN k k1 o n cp a b hb ha h1 (fun c h => (a4 c h).1)
              · cases h; exact ⟨o, by rw [e]; rfl⟩
              · subst hZ
                have hms := mul_sub_le (sz := sz') (show a.toNat ≤ b.toNat by omega) (show b.toNat ≤ n by omega)
                refine .inr (.inl ⟨k1, _, _, _, sz', cells1, rfl, a1, hsl, by omega, ?_, ?_⟩)
                · intro c0 hc0
                  cases cp with
                  | none => cases hc0
                  | some cp =>
                    cases hc0
                    obtain ⟨h4, h5⟩ := a4 cp rfl
                    change b.toNat - a.toNat ≤ cp - a.toNat ∧ o + a.toNat * sz' + (cp - a.toNat) * sz' ≤ cells1.length
                    refine ⟨by omega, ?_⟩
                    have : a.toNat * sz' + (cp - a.toNat) * sz' = cp * sz' := by rw [← Nat.add_mul]; congr 1; omega
                    omega
                · have := (a5.drop (a.toNat * sz')).take ((b.toNat - a.toNat) * sz')
                  rw [cut_sub _ (by omega) (by omega)] at this
                  show XRs g.Z d.h none (vsub l sz' a.toNat b.toNat) ((cells1.drop (o + a.toNat * sz')).take (vsub l sz' a.toNat b.toNat).length)
                  rw [hsl]; exact this
            · cases h

/-! ### What is put behind a row -/

theorem vsrc_sound {Z : P → Prop} {c : Ctx} {d : DS} {g : Gh} (R : RS c s d g) {sz m : Nat} {v : VV} {x : DV} {new : List VV} (hx : XR g.Z d.h (mm s.nx s.h g) v x) (hs : vsrc s.h sz v = some (m, new)) :
    ∃ new', XRs g.Z d.h none new new' ∧ ((x = .nils ∧ m = 0 ∧ new' = []) ∨ ∃ b o cp cells, x = .sl b o m cp sz ∧ objAt b d.h = some cells ∧ o + m * sz ≤ cells.length ∧ new' = (cells.drop o).take (m * sz)) := by
  cases v <;> simp only [vsrc, reduceCtorEq] at hs
  case nils => simp only [Option.some.injEq, Prod.mk.injEq] at hs; obtain ⟨rfl, rfl⟩ := hs; exact ⟨[], .nil, .inl ⟨hx.nils_inv, rfl, rfl⟩⟩
  case fz n cp sz' l =>
    by_cases h1 : sz' = sz
    · rw [if_pos h1] at hs
      simp only [Option.some.injEq, Prod.mk.injEq] at hs; obtain ⟨rfl, rfl⟩ := hs
      subst h1
      rcases hx.fz_cells with ⟨e, rfl, rfl, h3⟩ | ⟨k0, o, c', cells, e, h3, h4, h5, h6, h7, h8, h9⟩
      · exact ⟨[], .nil, .inl ⟨e, rfl, rfl⟩⟩
      · exact ⟨_, h7, .inr ⟨k0, o, c', cells, e, h5, h6, rfl⟩⟩
    · rw [if_neg h1] at hs; cases hs
  case ow k n sz' =>
    cases hl : live s.h k (n * sz') with
    | none => simp only [hl, reduceCtorEq] at hs
    | some ob =>
      cases ob with
      | obj l => simp only [hl, reduceCtorEq] at hs
      | row l =>
        simp only [hl] at hs
        by_cases h1 : sz' = sz
        · rw [if_pos h1] at hs
          simp only [Option.some.injEq, Prod.mk.injEq] at hs; obtain ⟨rfl, rfl⟩ := hs
          subst h1
          obtain ⟨e1, e2, e3, e4, e5⟩ := ow_blk R hl hx
          rcases e5 with ⟨e, rfl⟩ | ⟨k1, o, cp, e⟩
          · have e2' : l.length = 0 * sz' := e2
            have : l = [] := by simpa using e2'
            subst this
            exact ⟨[], .nil, .inl ⟨e, rfl, rfl⟩⟩
          · rw [e] at e4
            rcases e4 with ⟨h, _⟩ | ⟨b1, q1, n1, cp1, sz1, cells1, h, a1, a2, a3, a4, a5⟩ | ⟨b1, q1, cells1, h, _⟩
            · cases h
            · cases h
              have hlen : (VOb.row l).cells.length = n * sz' := e2
              rw [hlen] at a5
              exact ⟨_, a5, .inr ⟨k1, o, cp, cells1, e, by unfold objAt; rw [a1], a3, rfl⟩⟩
            · cases h
        · rw [if_neg h1] at hs; cases hs

theorem s_app {sz bt : Nat} {a x : Opd} (H : wI F (.app sz bt a x) s K) : ISem F (.app sz bt a x) s K := by
  intro c d g R
  simp only [wI] at H
  cases hx : vev x s.e with
  | none => simp only [hx] at H
  | some vx =>
    simp only [hx] at H
    cases hs : vsrc s.h sz vx with
    | none => simp only [hs] at H
    | some mn =>
      obtain ⟨m, new⟩ := mn
      simp only [hs] at H
      obtain ⟨new', hnew, hsh⟩ := vsrc_sound (Z := g.Z) R (vev_sound R.env hx) hs
      have hnl := hnew.length
      have run : ∀ (n : Nat) (k : Kv), insK (.app sz bt a x) F (exec F n) c.wm d.e d.nx d.h k = apX sz bt (ev a d.e) d.e d.nx d.h k c.wm m new' := by
        intro n k
        show asSl (ev x d.e) (nilsK (ev x d.e) .fail fun _ => apX sz bt (ev a d.e) d.e d.nx d.h k c.wm (nat_lit 0) [])
          (fun b o n _ s2 => chk (Nat.beq s2 sz) fun _ => slcK d.h b o n sz fun new => apX sz bt (ev a d.e) d.e d.nx d.h k c.wm n new) = _
        rcases hsh with ⟨e, rfl, rfl⟩ | ⟨b, o, cp, cells, e, h1, h2, rfl⟩
        · rw [e, asSl_eq]; rfl
        · rw [e, asSl_eq]
          show chk (Nat.beq sz sz) (fun _ => slcK d.h b o m sz fun new => apX sz bt (ev a d.e) d.e d.nx d.h k c.wm m new) = _
          rw [chk_eq, if_pos (by simp)]
          show objK b d.h .fail (fun l => dropK o l .fail fun t => takeK (Nat.mul m sz) t .fail fun new => apX sz bt (ev a d.e) d.e d.nx d.h k c.wm m new) = _
          have hobj : objK b d.h .fail (fun l => dropK o l .fail fun t => takeK (Nat.mul m sz) t .fail fun new => apX sz bt (ev a d.e) d.e d.nx d.h k c.wm m new) =
              dropK o cells .fail fun t => takeK (Nat.mul m sz) t .fail fun new => apX sz bt (ev a d.e) d.e d.nx d.h k c.wm m new := by
            rw [objK_eq]
            unfold objAt at h1
            cases h3 : Tr.get? b d.h with
            | none => rw [h3] at h1; cases h1
            | some ob => cases ob <;> simp only [h3, Option.some.injEq, reduceCtorEq] at h1 ⊢ <;> rw [h1]
          rw [hobj, dropK_eq, if_pos (by omega), takeK_eq, if_pos (by rw [List.length_drop]; show m * sz ≤ _; omega)]
          rfl
      have apnil : ∀ (k : Kv), apX sz bt .nils d.e d.nx d.h k c.wm m new' = Bool.rec (motive := fun _ => Res) (chk (Nat.ble (Nat.mul m bt) (nat_lit 35184372088832)) fun _ => apNew sz (nat_lit 0) m [] new' d.e d.nx d.h k) (k d.e .nils d.nx d.h) (Nat.beq m (nat_lit 0)) := by
        intro k
        show Bool.rec (motive := fun _ => Res)
          (asSl .nils (nilsK .nils .fail fun _ => chk (Nat.ble (Nat.mul m bt) (nat_lit 35184372088832)) fun _ => apNew sz (nat_lit 0) m [] new' d.e d.nx d.h k) (apSl sz bt d.e d.nx d.h k c.wm m new'))
          (asSl .nils (nilsK .nils .fail fun _ => fV .nils fun v => k d.e v d.nx d.h) fun _ _ _ _ _ => fV .nils fun v => k d.e v d.nx d.h) (Nat.beq m (nat_lit 0)) = _
        cases Nat.beq m (nat_lit 0) <;> rfl
      cases ha : vev a s.e with
      | none => simp only [ha] at H
      | some va =>
        have hva := vev_sound R.env ha
        cases va <;> simp only [ha] at H
        case nils =>
          obtain ⟨⟨hbt, hlen⟩, H⟩ := H
          have e := hva.nils_inv
          cases m with
          | zero =>
            obtain ⟨R1, E1⟩ := R.hp.addNil
            have hn0 : new = [] := by simpa using hlen
            subst hn0
            refine ⟨⟨s.e, s.nx + 1, s.w, (s.nx, .row []) :: s.h⟩, .ow s.nx 0 sz, d, .nils, ⟨g.Z, upd g.μ s.nx .nils⟩, ⟨0, fun n _ k => ?_⟩, ⟨E1.env R.env, R1⟩, rfl, ?_, E1, H⟩
            · rw [run, e, apnil]; rfl
            · exact xr_ow_new (by simp) (.inl ⟨rfl, rfl⟩)
          | succ m =>
            refine isem_new R R.hp (Evo.refl _ _ _ _ _) (r := .sl d.nx 0 (m + 1) none sz) (cells := new') rfl (fun ho hm => ?_) ?_ (fun n k => ?_) H
            · exact blk_row (Tr.get_set_self _ _ _) hlen (fun c h => by cases h) ⟨new', [], by simp, XRs.mono (M := none) (M' := none) (fun _ h => h) ho trivial hnew⟩
            · exact xr_ow_new hlen (.inr ⟨_, _, _, rfl⟩)
            · rw [run, e, apnil]
              show chk (Nat.ble (Nat.mul (m + 1) bt) (nat_lit 35184372088832)) (fun _ => apNew sz (nat_lit 0) (m + 1) [] new' d.e d.nx d.h k) = _
              rw [chk_eq, if_pos (by rw [Nat.ble_eq]; exact hbt)]
              show catK [] new' (fun l => forceN (Nat.add 0 (m + 1)) fun n => newK l d.e d.nx d.h (fun b => .sl b (nat_lit 0) n none sz) k) = _
              rw [catK_eq, forceN_eq, newK_eq]
              show k d.e (.sl d.nx 0 (0 + (m + 1)) none sz) _ _ = _
              rw [Nat.zero_add, List.nil_append]
        case ow k0 n sz' =>
          obtain ⟨rfl, hsz, hw, ⟨hbt, hlen⟩, H⟩ := H
          cases hl : live s.h k0 (n * sz') with
          | none => simp only [hl] at H
          | some ob =>
            cases ob with
            | obj l => simp only [hl] at H
            | row l =>
              simp only [hl] at H
              obtain ⟨e1, e2, e3, e4, e5⟩ := ow_blk R hl hva
              have e2' : l.length = n * sz' := e2
              have hnl' : (l ++ new).length = (n + m) * sz' := by rw [List.length_append, e2', hlen, Nat.add_mul]
              have hkn := (R.hp.blk k0 _ e1).1
              have hgrow : m ≠ 0 → l.length ≠ (l ++ new).length := by
                intro h h'
                rw [List.length_append, hlen] at h'
                have : 0 < m * sz' := Nat.mul_pos (by omega) hsz
                omega
              -- how it ends
              have fin : ∀ (r' : DV) (dnx' : P) (dh' : Hp), (∀ (nn : Nat) (k : Kv), insK (.app sz' bt a x) F (exec F nn) c.wm d.e d.nx d.h k = k d.e r' dnx' dh') →
                  (l.length = (l ++ new).length → r' = ev a d.e) → (∀ a0 : P, a0.n < d.nx.n → (∀ b q, refAt (ev a d.e) = some (b, q) → a0 ≠ b) → Tr.get? a0 dh' = Tr.get? a0 d.h) → (∀ a0 : P, dnx'.n ≤ a0.n → Tr.get? a0 dh' = none) → d.nx.n ≤ dnx'.n →
                  (∀ b q, refAt r' = some (b, q) → d.nx.n ≤ b.n ∨ ∃ q', refAt (ev a d.e) = some (b, q')) →
                  (∀ M, (∀ a0, g.Z a0 → objAt a0 dh' = objAt a0 d.h) → Blk g.Z dh' M (.row (l ++ new)) r') →
                  ((r' = .nils ∧ n + m = 0) ∨ ∃ b o cp, r' = .sl b o (n + m) cp sz') →
                  ∃ s' v' d' x0 g', IRun F (.app sz' bt a x) c d d' x0 ∧ RS c s' d' g' ∧ s'.w = s.w ∧ XR g'.Z d'.h (mm s'.nx s'.h g') v' x0 ∧ EvoS s d g s' d' g' ∧ K s' v' := by
                intro r' dnx' dh' hrun h1 h2 h3 h4 h5 h6 h7
                obtain ⟨R1, E1⟩ := R.hp.renew (ob' := .row (l ++ new)) (r' := r') (dnx' := dnx') (dh' := dh') e1 e3 (by show l.length ≤ (l ++ new).length; rw [List.length_append]; omega) h1 h2 h3 h4 h5 (fun ho _ => h6 _ ho)
                refine ⟨⟨s.e, s.nx, s.w, hset s.h k0 (.row (l ++ new))⟩, _, ⟨d.e, dnx', dh'⟩, r', ⟨g.Z, upd g.μ k0 r'⟩, ⟨0, fun nn _ k => hrun nn k⟩, ⟨E1.env R.env, R1⟩, rfl, ?_, E1, H⟩
                refine .ow (by rcases h7 with ⟨h, _⟩ | ⟨b, o, c, h⟩ <;> rw [h] <;> first | exact .inl rfl | exact .inr ⟨_, _, _, _, _, rfl⟩) hkn fun m' r1 e => ?_
                obtain ⟨o, g1, g2, g3⟩ := mof_some e
                rw [hget_set_self e1] at g1; cases g1
                simp only [upd_self] at g2; cases g2
                have : (l ++ new).length = m' := g3
                exact ⟨by omega, fun _ => ⟨rfl, h7⟩⟩
              -- a new block
              have fresh : ∀ (old : List DV) (dh0 : Hp), (∀ a0 : P, a0.n < d.nx.n → (∀ b q, refAt (ev a d.e) = some (b, q) → a0 ≠ b) → Tr.get? a0 dh0 = Tr.get? a0 d.h) → (∀ a0 : P, d.nx.n ≤ a0.n → Tr.get? a0 dh0 = none) → XRs g.Z d.h none l old → (0 < m) →
                  (∀ (nn : Nat) (k : Kv), insK (.app sz' bt a x) F (exec F nn) c.wm d.e d.nx d.h k = apNew sz' n m old new' d.e d.nx dh0 k) → 
                  (l.length = (l ++ new).length → DV.sl d.nx 0 (n + m) none sz' = ev a d.e) →
                  ∃ s' v' d' x0 g', IRun F (.app sz' bt a x) c d d' x0 ∧ RS c s' d' g' ∧ s'.w = s.w ∧ XR g'.Z d'.h (mm s'.nx s'.h g') v' x0 ∧ EvoS s d g s' d' g' ∧ K s' v' := by
                intro old dh0 h1 h2 h3 hm hrun hsz
                refine fin (.sl d.nx 0 (n + m) none sz') d.nx.suc (Tr.set d.nx dh0 (some (.cells (old ++ new')))) (fun nn k => ?_) hsz (fun a0 ha hne => ?_) (fun a0 ha => ?_) (by rw [P.n_suc]; omega) (fun b q h => ?_) (fun M ho => ?_) (.inr ⟨_, _, _, rfl⟩)
                · rw [hrun]
                  show catK old new' (fun l => forceN (Nat.add n m) fun n => newK l d.e d.nx dh0 (fun b => .sl b (nat_lit 0) n none sz') k) = _
                  rw [catK_eq, forceN_eq, newK_eq]; rfl
                · rw [Tr.get_set_ne (P.ne_of_lt ha)]; exact h1 a0 ha hne
                · rw [P.n_suc] at ha
                  rw [Tr.get_set_ne (by rintro rfl; omega)]; exact h2 a0 (by omega)
                · cases h; exact .inl (Nat.le_refl _)
                · exact blk_row (Tr.get_set_self _ _ _) hnl' (fun c h => by cases h) ⟨old ++ new', [], by simp, XRs.mono (M := none) (M' := none) (fun _ h => h) ho trivial (h3.append hnew)⟩
              by_cases hm0 : m = 0
              · subst hm0
                have hn0 : new = [] := by simpa using hlen
                subst hn0
                refine fin (ev a d.e) d.nx d.h (fun nn k => ?_) (fun _ => rfl) (fun _ _ _ => rfl) R.hp.top (Nat.le_refl _) (fun b q h => .inr ⟨q, h⟩) (fun M ho => ?_) e5
                · rw [run]
                  show asSl (ev a d.e) (nilsK (ev a d.e) .fail fun _ => fV (ev a d.e) fun v => k d.e v d.nx d.h) (fun _ _ _ _ _ => fV (ev a d.e) fun v => k d.e v d.nx d.h) = _
                  rcases e5 with ⟨e, _⟩ | ⟨b, o, cp, e⟩ <;> rw [e] <;> rfl
                · rw [List.append_nil]
                  rcases e4 with ⟨h, h'⟩ | ⟨b1, q1, n1, cp1, sz1, cells1, h, a1, a2, a3, a4, a5⟩ | ⟨b1, q1, cells1, h, a1, a2, a3⟩
                  · exact .inl ⟨h, h'⟩
                  · exact .inr (.inl ⟨b1, q1, n1, cp1, sz1, cells1, h, a1, a2, a3, a4, a5⟩)
                  · exact .inr (.inr ⟨b1, q1, cells1, h, a1, a2, a3⟩)
              · have hmb : Nat.beq m (nat_lit 0) = false := by cases m with
                  | zero => exact absurd rfl hm0
                  | succ m => rfl
                rcases e5 with ⟨e, rfl⟩ | ⟨b, o, cp, e⟩
                · have hl0 : l = [] := by simpa using e2'
                  subst hl0
                  refine fresh [] d.h (fun _ _ _ => rfl) R.hp.top .nil (by omega) (fun nn k => ?_) (fun h => ?_)
                  · rw [run, e, apnil, hmb]
                    show chk (Nat.ble (Nat.mul m bt) (nat_lit 35184372088832)) (fun _ => apNew sz' (nat_lit 0) m [] new' d.e d.nx d.h k) = _
                    rw [chk_eq, if_pos (by rw [Nat.ble_eq]; rw [Nat.zero_add] at hbt; exact hbt)]
                  · exact absurd h (hgrow hm0)
                · rw [e] at e4
                  rcases e4 with ⟨h, h'⟩ | ⟨b1, q1, n1, cp1, sz1, cells1, h, a1, a2, a3, a4, a5⟩ | ⟨b1, q1, cells1, h, a1, a2, a3⟩
                  · cases h
                  · cases h
                    have hlen0 : (VOb.row l).cells.length = n * sz' := e2
                    rw [hlen0] at a5
                    have hmay := (R.hp.own k0 _ _ b o e1 e3 (by rw [e]; rfl)).2.2 hw
                    have hsl : ∀ (nn : Nat) (k : Kv), insK (.app sz' bt a x) F (exec F nn) c.wm d.e d.nx d.h k =
                        Option.rec (motive := fun _ => Res) (apKill sz' d.e d.nx d.h k c.wm b o n m new')
                          (fun c0 => Bool.rec (motive := fun _ => Res) (slcK d.h b o n sz' fun old => apNew sz' n m old new' d.e d.nx d.h k) (apIn sz' d.e d.nx d.h k c.wm b o n c0 m new') (Nat.ble (Nat.add n m) c0)) cp := by
                      intro nn k
                      rw [run, e]
                      show Bool.rec (motive := fun _ => Res) (apSl sz' bt d.e d.nx d.h k c.wm m new' b o n cp sz') (fV (.sl b o n cp sz') fun v => k d.e v d.nx d.h) (Nat.beq m (nat_lit 0)) = _
                      rw [hmb]
                      show chk (Nat.beq sz' sz') (fun _ => chk (Nat.ble (Nat.mul (Nat.add n m) bt) (nat_lit 35184372088832)) fun _ =>
                        Option.rec (motive := fun _ => Res) (apKill sz' d.e d.nx d.h k c.wm b o n m new')
                          (fun c0 => Bool.rec (motive := fun _ => Res) (slcK d.h b o n sz' fun old => apNew sz' n m old new' d.e d.nx d.h k) (apIn sz' d.e d.nx d.h k c.wm b o n c0 m new') (Nat.ble (Nat.add n m) c0)) cp) = _
                      rw [chk_eq, if_pos (by simp), chk_eq, if_pos (by rw [Nat.ble_eq]; exact hbt)]
                    have hb := R.hp.lt e1 e3 (show refAt (ev a d.e) = some (b, o) by rw [e]; rfl)
                    cases cp with
                    | none =>
                      refine fresh ((cells1.drop o).take (n * sz')) (Tr.set b d.h (some .dead)) (fun a0 ha hne => ?_) (fun a0 ha => ?_) a5 (by omega) (fun nn k => ?_) (fun h => ?_)
                      · exact Tr.get_set_ne (hne b o (by rw [e]; rfl)) _ _
                      · rw [Tr.get_set_ne (by rintro rfl; omega)]; exact R.hp.top a0 ha
                      · rw [hsl]
                        show wOk c.wm b .fail (fun _ => ownK b d.h .fail fun l => dropK o l .fail fun t => takeK (Nat.mul n sz') t .fail fun old =>
                          Tr.setK b d.h (some .dead) fun h => apNew sz' n m old new' d.e d.nx h k) = _
                        rw [wOk_pos hmay, ownK_eq, a1]
                        show dropK o cells1 .fail (fun t => takeK (Nat.mul n sz') t .fail fun old => Tr.setK b d.h (some .dead) fun h => apNew sz' n m old new' d.e d.nx h k) = _
                        rw [dropK_eq, if_pos (by omega), takeK_eq, if_pos (by rw [List.length_drop]; show n * sz' ≤ _; omega), Tr.setK_eq]; rfl
                      · exact absurd h (hgrow hm0)
                    | some c0 =>
                      obtain ⟨hc1, hc2⟩ := a4 c0 rfl
                      by_cases hle : n + m ≤ c0
                      · have hroom : o + n * sz' + new'.length ≤ cells1.length := by
                          have h1 : n * sz' + m * sz' ≤ c0 * sz' := by rw [← Nat.add_mul]; exact Nat.mul_le_mul_right _ hle
                          omega
                        refine fin (.sl b o (n + m) (some c0) sz') d.nx (Tr.set b d.h (some (.cells (cells1.take (o + n * sz') ++ new' ++ cells1.drop (o + n * sz' + new'.length))))) (fun nn k => ?_) (fun h => ?_) (fun a0 ha hne => ?_) (fun a0 ha => ?_) (Nat.le_refl _) (fun b' q h => ?_) (fun M ho => ?_) (.inr ⟨_, _, _, rfl⟩)
                        · rw [hsl]
                          show Bool.rec (motive := fun _ => Res) (slcK d.h b o n sz' fun old => apNew sz' n m old new' d.e d.nx d.h k) (apIn sz' d.e d.nx d.h k c.wm b o n c0 m new') (Nat.ble (Nat.add n m) c0) = _
                          have : Nat.ble (Nat.add n m) c0 = true := by rw [Nat.ble_eq]; exact hle
                          rw [this]
                          show wOk c.wm b .fail (fun _ => ownK b d.h .fail fun l => sprK (Nat.add o (Nat.mul n sz')) l new' .fail fun l => Tr.setK b d.h (some (.cells l)) fun h =>
                            forceN (Nat.add n m) fun n => k d.e (.sl b o n (some c0) sz') d.nx h) = _
                          rw [wOk_pos hmay, ownK_eq, a1]
                          show sprK (o + n * sz') cells1 new' .fail (fun l => Tr.setK b d.h (some (.cells l)) fun h => forceN (Nat.add n m) fun n => k d.e (.sl b o n (some c0) sz') d.nx h) = _
                          rw [sprK_eq, if_pos hroom, Tr.setK_eq, forceN_eq]; rfl
                        · exact absurd h (hgrow hm0)
                        · exact Tr.get_set_ne (hne b o (by rw [e]; rfl)) _ _
                        · rw [Tr.get_set_ne (by rintro rfl; omega)]; exact R.hp.top a0 ha
                        · cases h; exact .inr ⟨o, by rw [e]; rfl⟩
                        · have hl3 := splD_length cells1 (o + n * sz') new' hroom
                          refine .inr (.inl ⟨b, o, n + m, some c0, sz', _, rfl, Tr.get_set_self _ _ _, hnl', by rw [hl3, Nat.add_mul]; omega, fun c h => by cases h; rw [hl3]; exact ⟨hle, hc2⟩, ?_⟩)
                          show XRs g.Z _ none (l ++ new) (((cells1.take (o + n * sz') ++ new' ++ cells1.drop (o + n * sz' + new'.length)).drop o).take (l ++ new).length)
                          have hcut : ((cells1.take (o + n * sz') ++ new' ++ cells1.drop (o + n * sz' + new'.length)).drop o).take (l ++ new).length = (cells1.drop o).take (n * sz') ++ new' := by
                            rw [hnl', Nat.add_mul, ← hlen, hnl, List.append_assoc, List.drop_append_of_le_length (by rw [List.length_take]; omega), List.drop_take]
                            rw [show o + n * sz' - o = n * sz' by omega]
                            have : ((cells1.drop o).take (n * sz')).length = n * sz' := by rw [List.length_take, List.length_drop]; omega
                            rw [List.take_append, List.take_of_length_le (by omega), this, Nat.add_sub_cancel_left, List.take_append, List.take_of_length_le (Nat.le_refl _), Nat.sub_self]
                            simp
                          rw [hcut]
                          exact XRs.mono (M := none) (M' := none) (fun _ h => h) ho trivial (XRs.append a5 hnew)
                      · refine fresh ((cells1.drop o).take (n * sz')) d.h (fun _ _ _ => rfl) R.hp.top a5 (by omega) (fun nn k => ?_) (fun h => ?_)
                        · rw [hsl]
                          show Bool.rec (motive := fun _ => Res) (slcK d.h b o n sz' fun old => apNew sz' n m old new' d.e d.nx d.h k) (apIn sz' d.e d.nx d.h k c.wm b o n c0 m new') (Nat.ble (Nat.add n m) c0) = _
                          have : Nat.ble (Nat.add n m) c0 = false := by
                            cases h : Nat.ble (Nat.add n m) c0 with
                            | false => rfl
                            | true => rw [Nat.ble_eq] at h; exact absurd h hle
                          rw [this]
                          show objK b d.h .fail (fun l => dropK o l .fail fun t => takeK (Nat.mul n sz') t .fail fun old => apNew sz' n m old new' d.e d.nx d.h k) = _
                          rw [objK_eq, a1]
                          show dropK o cells1 .fail (fun t => takeK (Nat.mul n sz') t .fail fun old => apNew sz' n m old new' d.e d.nx d.h k) = _
                          rw [dropK_eq, if_pos (by omega), takeK_eq, if_pos (by rw [List.length_drop]; show n * sz' ≤ _; omega)]; rfl
                        · exact absurd h (hgrow hm0)
                  · cases h

end
end Go.Proofs.Ythdlkpmhjbaplaa.Dx
