/- The small machine's other instructions, those that call nothing: each one's step beside Go's. No statement of this seat is proved here. -/
import Derived.Test.YtnoekfkfinjfgaaGreatDoorUj
set_option autoImplicit false
set_option linter.unusedSectionVars false
set_option linter.unusedSimpArgs false
noncomputable section
namespace Go.Proofs.YtnoekfkfinjfgaaGreatDoor.Dx
open Go
variable [Rho]

section
variable {Pr : Program} {F : Tr Fd} {ih : Ih} {wm : Option P} {e : Env} {nx : P} {h : Hp} {k : Kv} {out : Out} {eo : Env} {no : P} {ho : Hp} {o : Oper}

theorem mem_apz {sz bt : Nat} {z : List DV} {s x : Opd} (H : insK (.apz sz bt z s x) F ih wm e nx h k = .ok out eo no ho) (hc : chkMem Pr (.apz sz bt z s x) o.op = true) : Step Pr o wm e nx h k (.ok out eo no ho) := by
  cases hop : o.op <;> simp only [chkMem, hop, Bool.false_eq_true] at hc
  rename_i c
  obtain ⟨y, y', t, t', rfl, hf⟩ := chkCall2_spec hc
  simp only [Bool.and_eq_true] at hf
  obtain ⟨⟨hs, hx⟩, hA⟩ := hf
  change nilsK (ev s e) .fail (fun _ => asI (ev x e) .fail fun _ x => natI x fun n => chk (Nat.ble (Nat.mul n bt) (nat_lit 1073741824)) fun _ =>
    Bool.rec (motive := fun _ => Res) (apzN sz z n e nx h k) (k e .nils nx h) (Nat.beq n (nat_lit 0))) = _ at H
  rw [nilsK_eq] at H
  cases hse : ev s e <;> simp only [hse, reduceCtorEq] at H
  rw [asI_eq] at H
  cases hxe : ev x e <;> simp only [hxe, reduceCtorEq] at H
  rename_i kk i
  rw [natI_eq] at H
  by_cases h1 : 0 ≤ i
  case neg => rw [if_neg h1] at H; cases H
  rw [if_pos h1, chk_eq, ble_if] at H
  change (if i.toNat * bt ≤ 1073741824 then _ else _) = _ at H
  by_cases h2 : i.toNat * bt ≤ 1073741824
  case neg => rw [if_neg h2] at H; cases H
  rw [if_pos h2, brec_if, beq_if] at H
  have hi : i = (i.toNat : Int) := by omega
  generalize i.toNat = n at *
  subst hi
  by_cases h3 : n = 0
  · rw [if_pos h3] at H
    subst h3
    exact ⟨_, _, _, _, H, (memOk_apz0 hop hs hx hA hse hxe).op, Moves.same _ _ _ _⟩
  · rw [if_neg h3] at H
    unfold apzN at H
    rw [repZ_eq] at H
    unfold apNew at H
    rw [catK_eq, forceN_eq, newK_eq] at H
    change k e (.sl nx 0 (0 + n) none sz) nx.suc (Tr.set nx h (some (.cells (reps z n)))) = _ at H
    rw [Nat.zero_add] at H
    exact ⟨_, _, _, _, H, (memOk_apz hop hs hx hA hse hxe h3 h2).op, Moves.new⟩
theorem mem_msl {sz bt : Nat} {z : List DV} {s x : Opd} (H : insK (.msl sz bt z s x) F ih wm e nx h k = .ok out eo no ho) (hc : chkMem Pr (.msl sz bt z s x) o.op = true) : Step Pr o wm e nx h k (.ok out eo no ho) := by
  cases hop : o.op <;> simp only [chkMem, hop, Bool.false_eq_true] at hc
  rename_i t y y'
  simp only [Bool.and_eq_true] at hc
  obtain ⟨⟨hs, hx⟩, hA⟩ := hc
  change asI (ev s e) .fail (fun _ x' => natI x' fun n => asI (ev x e) .fail fun _ y => natI y fun c => chk (Nat.ble n c) fun _ =>
    chk (Nat.ble (Nat.mul bt c) (nat_lit 1073741824)) fun _ => repZ z c fun l => forceN n fun n => forceN c fun c => newK l e nx h (fun b => .sl b (nat_lit 0) n (some c) sz) k) = _ at H
  rw [asI_eq] at H
  cases hse : ev s e <;> simp only [hse, reduceCtorEq] at H
  rename_i k1 i1
  rw [natI_eq] at H
  by_cases h1 : 0 ≤ i1
  case neg => rw [if_neg h1] at H; cases H
  rw [if_pos h1, asI_eq] at H
  cases hxe : ev x e <;> simp only [hxe, reduceCtorEq] at H
  rename_i k2 i2
  rw [natI_eq] at H
  by_cases h2 : 0 ≤ i2
  case neg => rw [if_neg h2] at H; cases H
  rw [if_pos h2, chk_eq, ble_if] at H
  by_cases h3 : i1.toNat ≤ i2.toNat
  case neg => rw [if_neg h3] at H; cases H
  rw [if_pos h3, chk_eq, ble_if] at H
  change (if bt * i2.toNat ≤ 1073741824 then _ else _) = _ at H
  by_cases h4 : bt * i2.toNat ≤ 1073741824
  case neg => rw [if_neg h4] at H; cases H
  rw [if_pos h4, repZ_eq, forceN_eq, forceN_eq, newK_eq] at H
  have hi1 : i1 = (i1.toNat : Int) := by omega
  have hi2 : i2 = (i2.toNat : Int) := by omega
  generalize i1.toNat = n1 at *
  generalize i2.toNat = n2 at *
  subst hi1; subst hi2
  exact ⟨_, _, _, _, H, (memOk_msl hop hs hx hA hse hxe h3 h4).op, Moves.new⟩
theorem mem_al {z : List DV} (H : insK (.al z) F ih wm e nx h k = .ok out eo no ho) (hc : chkMem Pr (.al z) o.op = true) : Step Pr o wm e nx h k (.ok out eo no ho) := by
  cases hop : o.op <;> simp only [chkMem, hop, Bool.false_eq_true] at hc
  rename_i t
  cases hi : Pr.info? t with
  | none => simp [hi] at hc
  | some it =>
    cases hz : it.zero with
    | none => simp [hi, hz] at hc
    | some zv =>
      simp only [hi, hz] at hc
      change newK z e nx h (fun n => .ptr n (nat_lit 0)) k = _ at H
      rw [newK_eq] at H
      exact ⟨_, _, _, _, H, (memOk_al hop hi hz hc).op, Moves.new⟩
theorem mem_bx {d : Opd} (H : insK (.bx d) F ih wm e nx h k = .ok out eo no ho) (hc : chkMem Pr (.bx d) o.op = true) : Step Pr o wm e nx h k (.ok out eo no ho) := by
  cases hop : o.op <;> simp only [chkMem, hop, Bool.false_eq_true] at hc
  rename_i t x
  change ovK d e (fun v => cellsK v .fail fun l => newK l e nx h (fun n => .ptr n (nat_lit 0)) k) = _ at H
  rw [ovK_eq, cellsK_eq] at H
  cases hl : (ov d e).cells with
  | none => simp only [hl, reduceCtorEq] at H
  | some l =>
    simp only [hl, newK_eq] at H
    exact ⟨_, _, _, _, H, (memOk_bx hop hc hl).op, Moves.new⟩
theorem mem_bsl1 {len sz : Nat} {z : List DV} {ps : List (Nat × Nat × Opd)} (H : insK (.bsl len sz z ps) F ih wm e nx h k = .ok out eo no ho) (hc : chkMem Pr (.bsl len sz z ps) o.op = true) :
    ∃ l, k e (.sl nx 0 len (some len) sz) nx.suc (Tr.set nx h (some (.cells l))) = .ok out eo no ho ∧ NewOk Pr o e l (fun k => .sl k 0 len (some len) sz) := by
  cases hop : o.op <;> simp only [chkMem, hop, Bool.false_eq_true] at hc
  change fillK ps z e (fun l => newK l e nx h (fun n => .sl n (nat_lit 0) len (some len) sz) k) = _ at H
  rw [fillK_eq] at H
  cases hl : fills e ps z with
  | none => simp only [hl, reduceCtorEq] at H
  | some l =>
    simp only [hl, newK_eq] at H
    rw [Bool.or_eq_true] at hc
    rcases hc with hc | hc
    · exact ⟨l, H, newOk_bsl hop hc hl⟩
    · exact ⟨l, H, newOk_bsl0 hop hc hl⟩
theorem mem_bsl {len sz : Nat} {z : List DV} {ps : List (Nat × Nat × Opd)} (H : insK (.bsl len sz z ps) F ih wm e nx h k = .ok out eo no ho) (hc : chkMem Pr (.bsl len sz z ps) o.op = true) : Step Pr o wm e nx h k (.ok out eo no ho) := by
  obtain ⟨l, H, W⟩ := mem_bsl1 H hc
  exact ⟨_, _, _, _, H, (W.mem nx h).op, Moves.new⟩
theorem mem_ld {d : Opd} (H : insK (.ld d) F ih wm e nx h k = .ok out eo no ho) (hc : chkMem Pr (.ld d) o.op = true) : Step Pr o wm e nx h k (.ok out eo no ho) := by
  cases hop : o.op <;> simp only [chkMem, hop, Bool.false_eq_true] at hc
  simp only [Bool.and_eq_true] at hc
  change readK (ev d e) e h .fail (fun l o => nthK l o .fail fun v => fV v fun v => k e v nx h) = _ at H
  rw [readK_eq] at H
  cases hl : look (ev d e) e h with
  | none => simp only [hl, reduceCtorEq] at H
  | some p =>
    obtain ⟨l, i⟩ := p
    simp only [hl, nthK_eq] at H
    cases hv : l[i]? with
    | none => simp only [hv, reduceCtorEq] at H
    | some v =>
      simp only [hv, fV_eq] at H
      exact ⟨_, _, _, _, H, (memOk_ld hop hc.1 hc.2 hl hv).op, Moves.same _ _ _ _⟩
theorem mem_lda {n : Nat} {d : Opd} (H : insK (.lda n d) F ih wm e nx h k = .ok out eo no ho) (hc : chkMem Pr (.lda n d) o.op = true) : Step Pr o wm e nx h k (.ok out eo no ho) := by
  cases hop : o.op <;> simp only [chkMem, hop, Bool.false_eq_true] at hc
  simp only [Bool.and_eq_true] at hc
  change readK (ev d e) e h .fail (fun l o => dropK o l .fail fun t => takeK n t .fail fun r => k e (.agg r) nx h) = _ at H
  rw [readK_eq] at H
  cases hl : look (ev d e) e h with
  | none => simp only [hl, reduceCtorEq] at H
  | some p =>
    obtain ⟨l, i⟩ := p
    simp only [hl, dropK_eq, takeK_eq] at H
    by_cases h1 : i ≤ l.length
    case neg => rw [if_neg h1] at H; cases H
    rw [if_pos h1] at H
    by_cases h2 : n ≤ (l.drop i).length
    case neg => rw [if_neg h2] at H; cases H
    rw [if_pos h2] at H
    exact ⟨_, _, _, _, H, (memOk_lda hop hc.1.1 hc.1.2 hc.2 hl h2).op, Moves.same _ _ _ _⟩
theorem look_nl {x : DV} {e : Env} {p : List DV × Nat} (hl : look x e .nl = some p) (h : Hp) : look x e h = some p := by
  unfold look at hl ⊢
  split at hl
  · rename_i k o
    simp only [Tr.get_e, reduceCtorEq] at hl
  all_goals first | exact hl | (simp only [Tr.get_e, reduceCtorEq] at hl)
theorem mem_vlz {d : Opd} (H : insK (.vla 0 d) F ih wm e nx h k = .ok out eo no ho) (hc : chkMem Pr (.vla 0 d) o.op = true) : Step Pr o wm e nx h k (.ok out eo no ho) := by
  cases hop : o.op <;> simp only [chkMem, hop, Bool.false_eq_true] at hc
  simp only [Bool.and_eq_true] at hc
  change readK (ev d e) e .nl .fail (fun l o => nthK l o .fail fun v => fV v fun v => k e v nx h) = _ at H
  rw [readK_eq] at H
  cases hl : look (ev d e) e .nl with
  | none => simp only [hl, reduceCtorEq] at H
  | some p =>
    obtain ⟨l, i⟩ := p
    simp only [hl, nthK_eq] at H
    cases hv : l[i]? with
    | none => simp only [hv, reduceCtorEq] at H
    | some v =>
      simp only [hv, fV_eq] at H
      exact ⟨_, _, _, _, H, (memOk_ld hop hc.1.1 hc.1.2 (look_nl hl h) hv).op, Moves.same _ _ _ _⟩
theorem mem_vla {n : Nat} {d : Opd} (H : insK (.vla n d) F ih wm e nx h k = .ok out eo no ho) (hc : chkMem Pr (.vla n d) o.op = true) : Step Pr o wm e nx h k (.ok out eo no ho) := by
  cases n with
  | zero => exact mem_vlz H hc
  | succ n =>
  cases hop : o.op <;> simp only [chkMem, hop, Bool.false_eq_true] at hc
  simp only [Bool.and_eq_true] at hc
  change readK (ev d e) e .nl .fail (fun l o => dropK o l .fail fun t => takeK (n + 1) t .fail fun r => k e (.agg r) nx h) = _ at H
  rw [readK_eq] at H
  cases hl : look (ev d e) e .nl with
  | none => simp only [hl, reduceCtorEq] at H
  | some p =>
    obtain ⟨l, i⟩ := p
    simp only [hl, dropK_eq, takeK_eq] at H
    by_cases h1 : i ≤ l.length
    case neg => rw [if_neg h1] at H; cases H
    rw [if_pos h1] at H
    by_cases h2 : n + 1 ≤ (l.drop i).length
    case neg => rw [if_neg h2] at H; cases H
    rw [if_pos h2] at H
    exact ⟨_, _, _, _, H, (memOk_lda hop hc.1.1 hc.1.2 (by simpa using hc.2) (look_nl hl h) h2).op, Moves.same _ _ _ _⟩
theorem mem_st {n : Nat} {d dv : Opd} (H : insK (.st n d dv) F ih wm e nx h k = .ok out eo no ho) (hc : chkMem Pr (.st n d dv) o.op = true) : Step Pr o wm e nx h k (.ok out eo no ho) := by
  cases hop : o.op <;> simp only [chkMem, hop, Bool.false_eq_true] at hc
  simp only [Bool.and_eq_true] at hc
  obtain ⟨⟨hd, hdv⟩, hs⟩ := hc
  change ovK dv e (fun v => cellsK v .fail fun c => chk (isLen c n) fun _ => asP (ev d e) (asFl (ev d e) .fail (stF e nx h k c)) (stP wm e nx h k c)) = _ at H
  rw [ovK_eq, cellsK_eq] at H
  cases hl : (ov dv e).cells with
  | none => simp only [hl, reduceCtorEq] at H
  | some c =>
    simp only [hl] at H
    rw [chk_eq, isLen_eq] at H
    by_cases h1 : c.length = n
    case neg => rw [if_neg (by simpa using h1)] at H; cases H
    rw [if_pos (by simpa using h1), asP_eq, asFl_eq] at H
    cases hde : ev d e <;> simp only [hde, reduceCtorEq] at H
    case ptr b i =>
      unfold stP at H
      rw [wOk_eq] at H
      by_cases h2 : may wm b
      case neg => rw [if_neg h2] at H; cases H
      rw [if_pos h2, ownK_eq] at H
      cases hg : Tr.get? b h with
      | none => simp only [hg, reduceCtorEq] at H
      | some ob =>
        cases ob <;> simp only [hg, reduceCtorEq] at H
        rename_i l
        rw [sprK_eq] at H
        by_cases h3 : i + c.length ≤ l.length
        case neg => rw [if_neg h3] at H; cases H
        rw [if_pos h3, Tr.setK_eq] at H
        exact ⟨_, _, _, _, H, (memOk_st hop hd hdv hs hde hg hl h1 h3).op, Moves.put h2 hg⟩
    case fld p i =>
      unfold stF at H
      rw [varK_eq] at H
      cases hg : Tr.get? p e with
      | none => simp only [hg, reduceCtorEq] at H
      | some ob =>
        cases ob <;> simp only [hg, reduceCtorEq] at H
        rename_i l
        rw [sprK_eq] at H
        by_cases h3 : i + c.length ≤ l.length
        case neg => rw [if_neg h3] at H; cases H
        rw [if_pos h3, Tr.setK_eq] at H
        refine ⟨_, _, _, _, H, (memOk_stv hop hd hdv hs hde hg hl h1 h3).op, Nat.le_refl _, fun q => ?_, fun _ _ _ _ _ => rfl, fun h => h⟩
        by_cases hq : q = p
        · subst hq
          refine .inr ⟨l, _, hg, Tr.get_set_self _ _ _, ?_⟩
          simp; omega
        · exact .inl (Tr.get_set_ne hq _ _)

theorem mem_clr {sz : Nat} {z : List DV} {d : Opd} (H : insK (.clr sz z d) F ih wm e nx h k = .ok out eo no ho) (hc : chkMem Pr (.clr sz z d) o.op = true) : Step Pr o wm e nx h k (.ok out eo no ho) := by
  cases hop : o.op <;> simp only [chkMem, hop, Bool.false_eq_true] at hc
  rename_i c
  obtain ⟨x, t, rfl, hf⟩ := chkCall1_spec hc
  simp only [Bool.and_eq_true] at hf
  obtain ⟨hd, hA⟩ := hf
  change asSl (ev d e) (nilsK (ev d e) .fail fun _ => k e (.tup []) nx h) (fun b o n _ s => chk (Nat.beq s sz) fun _ => chk (isLen z sz) fun _ =>
    Bool.rec (motive := fun _ => Res) (clrB wm z e nx h k b o n) (k e (.tup []) nx h) (Nat.beq n (nat_lit 0))) = _ at H
  rw [asSl_eq, nilsK_eq] at H
  cases hde : ev d e <;> simp only [hde, reduceCtorEq] at H
  case nils => exact ⟨_, _, _, _, H, (memOk_clr0 hop hd hA (.inl hde)).op, Moves.same _ _ _ _⟩
  case sl b i n cp s =>
    rw [chk_eq, beq_if] at H
    by_cases h1 : s = sz
    case neg => rw [if_neg h1] at H; cases H
    rw [if_pos h1, chk_eq, isLen_eq] at H
    by_cases h2 : z.length = sz
    case neg => rw [if_neg (by simpa using h2)] at H; cases H
    rw [if_pos (by simpa using h2)] at H
    rcases Nat.eq_zero_or_pos n with h0 | h0
    · subst h0
      exact ⟨_, _, _, _, H, (memOk_clr0 hop hd hA (.inr ⟨_, _, _, _, hde⟩)).op, Moves.same _ _ _ _⟩
    · obtain ⟨m, rfl⟩ : ∃ m, n = m + 1 := ⟨n - 1, by omega⟩
      change clrB wm z e nx h k b i (m + 1) = _ at H
      unfold clrB at H
      rw [wOk_eq] at H
      by_cases h3 : may wm b
      case neg => rw [if_neg h3] at H; cases H
      rw [if_pos h3, ownK_eq] at H
      cases hg : Tr.get? b h with
      | none => simp only [hg, reduceCtorEq] at H
      | some ob =>
        cases ob <;> simp only [hg, reduceCtorEq] at H
        rename_i l
        rw [repZ_eq, sprK_eq] at H
        by_cases h4 : i + (reps z (m + 1)).length ≤ l.length
        case neg => rw [if_neg h4] at H; cases H
        rw [if_pos h4, Tr.setK_eq] at H
        exact ⟨_, _, _, _, H, (memOk_clr hop hd hA hde h0 hg h4).op, Moves.put h3 hg⟩
/-- no call -/
def isBad : Ins → Bool
  | .bad => true
  | _ => false
theorem mem_mm {m : Mx} {ds : List Opd} (H : insK (.mm m ds) F ih wm e nx h k = .ok out eo no ho) (hc : chkMem Pr (.mm m ds) o.op = true) : Step Pr o wm e nx h k (.ok out eo no ho) := by
  change ovsK ds e (fun vs => optE (mxV m wm vs nx h) e nx h k) = _ at H
  rw [ovsK_eq, optE_eq] at H
  cases hv : mxV m wm (ds.map fun o => ov o e) nx h with
  | none => simp [hv] at H
  | some x =>
    obtain ⟨v, f⟩ := x
    simp only [hv] at H
    replace hc : chkMx Pr m ds o.op = true := hc
    generalize hop : o.op = op at hc
    unfold chkMx at hc
    split at hc
    case h_1 =>
      simp only [List.map, mxV, Option.some.injEq, Prod.mk.injEq] at hv
      obtain ⟨rfl, rfl⟩ := hv
      exact ⟨_, _, _, _, H, (memOk_mmk hop (.inl rfl)).op, Moves.new⟩
    case h_2 =>
      rename_i d t x
      simp only [Bool.and_eq_true] at hc
      obtain ⟨kt, et, hu⟩ := mapIs_spec hc.2
      simp only [List.map] at hv
      cases hd : ov d e <;> simp only [hd, mxV, reduceCtorEq, Option.some.injEq, Prod.mk.injEq] at hv
      obtain ⟨rfl, rfl⟩ := hv
      refine ⟨_, _, _, _, H, (memOk_mmk hop (.inr ⟨x, kt, et, rfl, hu, fun j pv ρ hr => ?_⟩)).op, Moves.new⟩
      have := hr.ov (e := e) hc.1
      rw [hd] at this
      exact ⟨_, _, this.int_inv⟩
    case h_3 =>
      rename_i st ks z agg ok d d' t x i c
      simp only [Bool.and_eq_true, decide_eq_true_eq] at hc
      obtain ⟨⟨⟨h1, h2⟩, rfl⟩, h3⟩ := hc
      obtain ⟨rfl, M⟩ := memOk_mlk hop h1 h2 h3 hv
      exact ⟨_, _, _, _, H, M.op, Moves.same _ _ _ _⟩
    case h_4 =>
      rename_i st ks d d' d2 t m x y
      simp only [Bool.and_eq_true] at hc
      obtain ⟨b, y, z, rfl, hg, hm, M⟩ := memOk_mup (.inl hop) hc.1.1.1 hc.1.1.2 hc.1.2 hc.2 hv
      exact ⟨_, _, _, _, H, M.op, Moves.put (may_of hm) hg⟩
    case h_5 =>
      rename_i st ks d d' d2 t m x y
      simp only [Bool.and_eq_true] at hc
      obtain ⟨b, y, z, rfl, hg, hm, M⟩ := memOk_mup (.inr hop) hc.1.1.1 hc.1.1.2 hc.1.2 hc.2 hv
      exact ⟨_, _, _, _, H, M.op, Moves.put (may_of hm) hg⟩
    case h_6 =>
      rename_i st ks z agg d d' t m x
      simp only [Bool.and_eq_true] at hc
      obtain ⟨b, y, z, rfl, hg, hm, M⟩ := memOk_men hop hc.1.1 hc.1.2 hc.2 hv
      exact ⟨_, _, _, _, H, M.op, Moves.put (may_of hm) hg⟩
    case h_7 =>
      rename_i d d' d2 t m s x
      simp only [Bool.and_eq_true] at hc
      obtain ⟨b, y, z, rfl, hg, hm, M⟩ := memOk_mes hop hc.1.1 hc.1.2 hc.2 hv
      exact ⟨_, _, _, _, H, M.op, Moves.put (may_of hm) hg⟩
    case h_8 =>
      rename_i d x t
      simp only [Bool.and_eq_true] at hc
      simp only [List.map] at hv
      cases hd : ov d e <;> simp only [hd, mxV, reduceCtorEq] at hv
      rename_i b
      cases hl : mapOf h b with
      | none => simp [hl] at hv
      | some l =>
        simp only [hl, Option.some.injEq, Prod.mk.injEq] at hv
        obtain ⟨rfl, rfl⟩ := hv
        exact ⟨_, _, _, _, H, (memOk_mln hop hc.1 hc.2 hd hl).op, Moves.same _ _ _ _⟩
    case h_9 =>
      rename_i sz d d' x y t t'
      simp only [Bool.and_eq_true] at hc
      obtain ⟨⟨h1, h2⟩, h3⟩ := hc
      simp only [List.map] at hv
      cases hd : ov d e <;> simp only [hd, mxV, reduceCtorEq] at hv
      rename_i k1 o1 n1 c1 s1
      cases hd' : ov d' e <;> simp only [hd', mxV, reduceCtorEq] at hv
      rename_i k2 o2 n2 c2 s2
      rcases Nat.eq_zero_or_pos n2 with h0 | h0
      · subst h0
        simp only [mxV, Option.some.injEq, Prod.mk.injEq] at hv
        obtain ⟨rfl, rfl⟩ := hv
        exact ⟨_, _, _, _, H, (memOk_cpy0 hop h1 h2 h3 hd hd').op, Moves.same _ _ _ _⟩
      · obtain ⟨q, rfl⟩ : ∃ q, n2 = q + 1 := ⟨n2 - 1, by omega⟩
        simp only [mxV] at hv
        cases hb : (Nat.beq s1 sz && Nat.beq s2 sz && mayB wm k1 && Nat.ble (q + 1) n1) with
        | false => simp [hb] at hv
        | true =>
          cases hb2 : blockV h k2 with
          | none => simp [hb, hb2] at hv
          | some l2 =>
            cases hg : Tr.get? k1 h with
            | none => simp [hb, hb2, hg] at hv
            | some ob =>
              cases ob <;> simp only [hb, hb2, hg, reduceCtorEq] at hv
              rename_i l
              cases hcut : cutV l2 o2 ((q + 1) * sz) with
              | none => simp [hcut] at hv
              | some c =>
                simp only [hcut] at hv
                cases hle : Nat.ble (o1 + (q + 1) * sz) l.length with
                | false => simp [hle] at hv
                | true =>
                  simp only [hle, Option.some.injEq, Prod.mk.injEq] at hv
                  obtain ⟨rfl, rfl⟩ := hv
                  simp only [Bool.and_eq_true, Nat.beq_eq, Nat.ble_eq] at hb hle
                  obtain ⟨⟨⟨rfl, hs2⟩, hm⟩, hn⟩ := hb
                  subst hs2
                  have hs := cutV_slcV hb2 hcut
                  have hcl : c.length = (q + 1) * s2 := by
                    unfold cutV at hcut
                    cases hx : Nat.ble (o2 + (q + 1) * s2) l2.length with
                    | false => simp [hx] at hcut
                    | true =>
                      simp only [hx, Option.some.injEq] at hcut
                      rw [Nat.ble_eq] at hx
                      rw [← hcut, List.length_take, List.length_drop]; omega
                  rw [← hcl] at H hle
                  exact ⟨_, _, _, _, H, (memOk_cpy hop h1 h2 h3 hd hd' hn h0 hs hg hle).op, Moves.put (may_of hm) hg⟩
    case h_10 => cases hc

def chkIns (Pr : Program) (i : Ins) (op : Go.Op) : Bool := (isPure i && chkPure Pr i op) || (chkMem Pr i op || isBad i)

theorem ins_sim {i : Ins} (H : insK i F ih wm e nx h k = .ok out eo no ho) (hc : chkIns Pr i o.op = true) : Step Pr o wm e nx h k (.ok out eo no ho) := by
  unfold chkIns at hc
  rw [Bool.or_eq_true, Bool.and_eq_true, Bool.or_eq_true] at hc
  rcases hc with ⟨hp, hc⟩ | hc | hb
  · rw [insK_pure i hp] at H
    cases hv : pureDV i e with
    | none => simp only [hv, reduceCtorEq] at H
    | some v =>
      simp only [hv] at H
      exact ⟨_, _, _, _, H, (memOk_pure hv hc).op, Moves.same _ _ _ _⟩
  · cases i
    case app => exact mem_app H hc
    case apz => exact mem_apz H hc
    case msl => exact mem_msl H hc
    case al => exact mem_al H hc
    case bx => exact mem_bx H hc
    case bsl => exact mem_bsl H hc
    case ld => exact mem_ld H hc
    case lda => exact mem_lda H hc
    case vla => exact mem_vla H hc
    case st => exact mem_st H hc
    case clr => exact mem_clr H hc
    case mm => exact mem_mm H hc
    all_goals (unfold chkMem at hc; simp at hc)
  · cases i <;> first | (simp [isBad] at hb; done) | (change Res.fail = _ at H; cases H)
end
end Go.Proofs.YtnoekfkfinjfgaaGreatDoor.Dx

set_option autoImplicit false
set_option linter.unusedSectionVars false
set_option linter.unusedSimpArgs false
noncomputable section
namespace Go.Proofs.YtnoekfkfinjfgaaGreatDoor.Dx
open Go
variable [Rho]

/-! ### What is handed back -/

def chkRs (Pr : Program) : List Rs → List ResultVar → Bool
  | [], [] => true
  | .t p :: l, .tmp t :: l' => Nat.beq p.n t && chkRs Pr l l'
  | .cell p none :: l, .cell q t :: l' => Nat.beq p.n q && aggIs Pr t false && chkRs Pr l l'
  | .cell p (some n) :: l, .cell q t :: l' => Nat.beq p.n q && aggIs Pr t true && sizeIs Pr t n && chkRs Pr l l'
  | _, _ => false

section
variable {L : P → Prop} {N hi : Nat} {j : J} {pv : P → Option Nat} {e : Env} {nx : P} {h : Hp} {a : Act} {w : World} {Pr : Program}

theorem run_loadVar_one {t : Nat} (ht : aggIs Pr t false = true) {ad : Addr} {v : Value} (hc : w.cell? ad = some v) : (loadVar t ad).run Pr w = .ok v w := by
  simp only [loadVar, Sem.run_bind, aggIs_spec ht, Result.andThen_ok, Bool.false_eq_true, if_false, run_load, hc]
theorem run_loadVar_many {t n : Nat} (ht : aggIs Pr t true = true) (hs : sizeIs Pr t n = true) {b o : Nat} {vs : List Value} (hn : vs.length = n)
    (hc : ∀ i v, vs[i]? = some v → w.cell? ⟨b, o + i, none⟩ = some v) : (loadVar t ⟨b, o, none⟩).run Pr w = .ok (.agg vs.toArray) w := by
  obtain ⟨i, hi, hsz⟩ := sizeIs_spec hs
  have hso : (sizeOf t).run Pr w = .ok n w := by simp [sizeOf, typeInfo, hi, hsz]
  have hl : (loadCells ⟨b, o, none⟩ vs.length).run Pr w = .ok vs.toArray w := run_loadCells_list (P := Pr) w ⟨b, o, none⟩ vs (fun q v hv => by rw [Addr.add_mid]; exact hc q v hv)
  rw [hn] at hl
  simp only [loadVar, Sem.run_bind, Sem.run_pure, Result.andThen_ok, aggIs_spec ht, if_true, hso, hl]

/-- the n-th result, as Go hands it back -/
def resOf (tmps : Array Value) : ResultVar → Sem Value
  | .tmp t => pure (tmps.getD t undef)
  | .cell a t => do loadVar t (← asAddr (tmps.getD a undef))

theorem Rel.rs_sim (R : Rel L N hi j pv e nx h a w) : ∀ (rs : List Rs) (qs : List ResultVar) (vs : List DV), chkRs Pr rs qs = true → rsv e h rs = some vs →
    ∃ vs' : List Value, (qs.mapM (resOf a.tmps)).run Pr w = .ok vs' w ∧ VRt j vs vs' := by
  intro rs
  induction rs with
  | nil =>
    intro qs vs hc hv
    cases qs with
    | cons q qs => simp [chkRs] at hc
    | nil => simp only [rsv, Option.some.injEq] at hv; subst hv; exact ⟨[], by simp [List.mapM_nil], .nil⟩
  | cons r rs ih =>
    intro qs vs hc hv
    simp only [rsv] at hv
    cases hr : rs1v r e h with
    | none => simp only [hr, reduceCtorEq] at hv
    | some v =>
      simp only [hr] at hv
      cases ht : rsv e h rs with
      | none => simp [ht] at hv
      | some vs0 =>
        simp only [ht, Option.map_some, Option.some.injEq] at hv
        subst hv
        have main : ∀ q qs', qs = q :: qs' → chkRs Pr rs qs' = true → (∃ v', (resOf a.tmps q).run Pr w = .ok v' w ∧ VR j v v') →
            ∃ vs' : List Value, (qs.mapM (resOf a.tmps)).run Pr w = .ok vs' w ∧ VRt j (v :: vs0) vs' := by
          rintro q qs' rfl hc' ⟨v', hrun, hx⟩
          obtain ⟨vs', hm, hx'⟩ := ih qs' vs0 hc' ht
          refine ⟨v' :: vs', ?_, .cons hx hx'⟩
          simp only [List.mapM_cons, Sem.run_bind, hrun, Result.andThen_ok, hm, Sem.run_pure]
        have cell : ∀ (p : P) (q : Nat) (l : List DV) (o : Nat), Nat.beq p.n q = true → Dx.look (evT p e) e h = some (l, o) → ∃ b s, a.tmps.getD q undef = .pointer (some ⟨b, s + o, none⟩) ∧ CellsAt j w b s l := by
          intro p q l o hq hl
          exact R.look (R.reads (.t p) (.tmp q) hq) hl
        cases qs with
        | nil => cases r with
          | t p => simp [chkRs] at hc
          | cell p n => cases n <;> simp [chkRs] at hc
        | cons q qs =>
          cases r with
          | t p =>
            cases q with
            | cell => simp [chkRs] at hc
            | tmp t =>
              simp only [chkRs, Bool.and_eq_true] at hc
              refine main _ _ rfl hc.2 ⟨_, rfl, ?_⟩
              simp only [rs1v, Option.some.injEq] at hr
              rw [← hr]
              exact R.reads.ov (d := .t p) (x := .tmp t) hc.1
          | cell p n =>
            cases q with
            | tmp t => cases n <;> simp [chkRs] at hc
            | cell q t =>
              cases n with
              | none =>
                simp only [chkRs, Bool.and_eq_true] at hc
                simp only [rs1v] at hr
                cases hl : Dx.look (evT p e) e h with
                | none => simp [hl] at hr
                | some x =>
                  obtain ⟨l, o⟩ := x
                  simp only [hl] at hr
                  obtain ⟨b, s, hp, hcells⟩ := cell p q l o hc.1.1 hl
                  obtain ⟨v', hcell, hx, _⟩ := hcells o v hr
                  refine main _ _ rfl hc.2 ⟨v', ?_, hx⟩
                  simp only [resOf, hp, asAddr, Sem.run_bind, Sem.run_pure, Result.andThen_ok, run_loadVar_one hc.1.2 hcell]
              | some n =>
                simp only [chkRs, Bool.and_eq_true] at hc
                simp only [rs1v] at hr
                cases hl : Dx.look (evT p e) e h with
                | none => simp [hl] at hr
                | some x =>
                  obtain ⟨l, o⟩ := x
                  simp only [hl] at hr
                  by_cases hle : o ≤ l.length ∧ n ≤ (l.drop o).length
                  case neg => rw [if_neg hle] at hr; cases hr
                  rw [if_pos hle] at hr
                  simp only [Option.some.injEq] at hr; subst hr
                  obtain ⟨b, s, hp, hcells⟩ := cell p q l o hc.1.1.1 hl
                  obtain ⟨vs1, h1, h2, h3⟩ := hcells.part o n hle.2
                  refine main _ _ rfl hc.2 ⟨.agg vs1.toArray, ?_, .agg h1⟩
                  simp only [resOf, hp, asAddr, Sem.run_bind, Sem.run_pure, Result.andThen_ok, run_loadVar_many hc.1.1.2 hc.1.2 h2 h3]

theorem Rel.results (R : Rel L N hi j pv e nx h a w) {fn : Func} {rs : List Rs} {vs : List DV} (hc : chkRs Pr rs fn.results.toList = true) (hv : rsv e h rs = some vs) :
    ∃ v', (results fn a.tmps).run Pr w = .ok v' w ∧ VR j (one vs) v' := by
  obtain ⟨vs', hm, hx⟩ := R.rs_sim rs fn.results.toList vs hc hv
  have hm' : (fn.results.mapM (resOf a.tmps)).run Pr w = .ok vs'.toArray w := by
    simp [Array.mapM_eq_mapM_toList, hm]
  have hl := hx.length
  have hrun : (Go.results fn a.tmps).run Pr w = .ok (if h : vs'.toArray.size = 1 then vs'.toArray[0] else .tuple vs'.toArray) w := by
    show (do let vs ← fn.results.mapM (resOf a.tmps); pure (if h : vs.size = 1 then vs[0] else .tuple vs) : Sem Value).run Pr w = _
    rw [Sem.run_bind, hm']
    rfl
  refine ⟨_, hrun, ?_⟩
  cases hx with
  | nil => exact VR.tup (l' := []) .nil
  | cons h1 t1 =>
    cases t1 with
    | nil => exact h1
    | cons h2 t2 =>
      rw [dif_neg (by simp)]
      exact VR.tup (.cons h1 (.cons h2 t2))
end

/-! ### How a frame begins -/

section
variable {L : P → Prop} {N hi : Nat} {j : J} {pv : P → Option Nat} {e : Env} {nx : P} {h : Hp} {a : Act} {w : World}

theorem binds_get : ∀ (ps : List P) (vs : List DV) (e0 e : Env), binds ps vs e0 = some e → ∀ p v, Tr.get? p e = some v → Tr.get? p e0 = some v ∨ ∃ i : Nat, ps[i]? = some p ∧ vs[i]? = some v
  | [], [], e0, e, h, p, v, hv => by simp only [binds, Option.some.injEq] at h; subst h; exact .inl hv
  | [], _ :: _, e0, e, h, p, v, hv => by simp [binds] at h
  | _ :: _, [], e0, e, h, p, v, hv => by simp [binds] at h
  | q :: ps, u :: vs, e0, e, h, p, v, hv => by
    simp only [binds] at h
    rcases binds_get ps vs _ e h p v hv with h1 | ⟨i, h1, h2⟩
    · by_cases hq : p = q
      · subst hq
        rw [Tr.get_set_self] at h1
        cases h1
        exact .inr ⟨0, rfl, rfl⟩
      · rw [Tr.get_set_ne hq] at h1; exact .inl h1
    · exact .inr ⟨i + 1, h1, h2⟩

theorem Rel.enter (R : Rel L N hi j pv e nx h a w) {ps : List P} {vs : List DV} {args : List Value} {e' : Env} {n : Nat} (hb : binds ps vs .nl = some e') (hv : VRt j vs args) (hp : ∀ (i : Nat) (p : P), ps[i]? = some p → p.n = i) (hn : args.length ≤ n)
    (L' : P → Prop) : Rel L' n hi j (fun _ => none) e' nx h { tmps := args.toArray ++ Array.replicate (n - args.toArray.size) undef, defers := [] } w where
  fresh := R.fresh
  heap := R.heap
  inj := R.inj
  inr := R.inr
  env := fun p v hpv => by
    rcases binds_get ps vs .nl e' hb p v hpv with h1 | ⟨i, h1, h2⟩
    · rw [Tr.get_e] at h1; cases h1
    · obtain ⟨v', h3, h4⟩ := hv.get i v h2
      have hi := hp i p h1
      have hlt := (List.getElem?_eq_some_iff.1 h3).1
      have ht : (args.toArray ++ Array.replicate (n - args.toArray.size) undef).getD p.n undef = v' := by
        rw [hi, Array.getD_eq_getD_getElem?, Array.getElem?_append_left (by simpa using hlt), List.getElem?_toArray, h3]; rfl
      exact XD.tmps (XD.of_VR h4) ht
  pvv := fun p b hpb => by cases hpb
  pin := fun p q b hpb => by cases hpb
  pfr := fun p b hpb => by cases hpb
  pfo := fun p b hpb => by cases hpb
  loc := fun p l hpl => by
    rcases binds_get ps vs .nl e' hb p _ hpl with h1 | ⟨i, h1, h2⟩
    · rw [Tr.get_e] at h1; cases h1
    · obtain ⟨v', h3, h4⟩ := hv.get i _ h2; cases h4
  size := by simp; omega
  lt := R.lt
  lr := R.lr
  top := R.top
  maps := R.maps
  pfm := fun p b hpb => by cases hpb

/-! ### What the caller finds again -/

theorem Rel.leave (R : Rel L N hi j pv e nx h a w) {L' : P → Prop} {N' : Nat} {j' : J} {pv' : P → Option Nat} {e' : Env} {nx' : P} {h' : Hp} {a' : Act} {w' : World} (R' : Rel L' N' hi j' pv' e' nx' h' a' w') (F' : Fr hi nx.n j (fun _ => none) w j' pv' w') :
    Rel L N hi j' pv e nx' h' a w' ∧ Fr hi nx.n j pv w j' pv w' := by
  have blk : ∀ p b, pv p = some b → w'.heap[b]? = w.heap[b]? ∧ b < w.heap.size := by
    intro p b hb
    obtain ⟨l, hl⟩ := R.pvv p b hb
    obtain ⟨b', hb', _, hlies, _⟩ := R.env p _ hl
    rw [hb] at hb'; cases hb'
    exact ⟨F'.same b hlies.lt (fun k s c hk => absurd hk (R.pfr p b hb k s c)) (fun _ h => nomatch h) (fun k hk => absurd hk (R.pfm p b hb k)), hlies.lt⟩
  refine ⟨?_, ?_⟩
  · exact {
      fresh := R'.fresh
      heap := R'.heap
      inj := R'.inj
      inr := R'.inr
      env := fun p v hv => ER.of_heap F'.ext F'.size (fun b hb => (blk p b hb).1) (R.env p v hv)
      pvv := R.pvv
      pin := R.pin
      pfr := fun p b hb k s c hk => by
        rcases Nat.lt_or_ge k.n hi with hlt | hge
        · rcases F'.new k b s c hk hlt with ⟨k0, s0, c0, h0, _⟩ | h0
          · exact R.pfr p b hb _ _ _ h0
          · have := (blk p b hb).2; omega
        · rw [F'.old k hge] at hk; exact R.pfr p b hb _ _ _ hk
      pfo := fun p b hb k s hk => by
        rcases F'.ro _ _ _ hk with h0 | h0
        · exact R.pfo p b hb k s h0
        · have := (blk p b hb).2; omega
      loc := R.loc
      size := R.size
      lt := R'.lt
      lr := R'.lr
      top := R'.top
      maps := R'.maps
      pfm := fun p b hb k hk => by
        rcases Nat.lt_or_ge k.n hi with hlt | hge
        · rcases F'.newm k b hk hlt with ⟨k0, h0, _⟩ | h0
          · exact R.pfm p b hb _ h0
          · have := (blk p b hb).2; omega
        · rw [F'.old k hge] at hk; exact R.pfm p b hb _ hk }
  · exact { F' with same := fun x hx hj _ hm => F'.same x hx hj (fun _ h => nomatch h) hm, pnew := fun p x hp => .inl hp }
end
end Go.Proofs.YtnoekfkfinjfgaaGreatDoor.Dx

set_option autoImplicit false
set_option linter.unusedSectionVars false
set_option linter.unusedSimpArgs false
set_option linter.unusedVariables false
noncomputable section
namespace Go.Proofs.YtnoekfkfinjfgaaGreatDoor.Dx
open Go
variable [Rho]

/-! ### What the tests say -/

theorem okF_eq (b : Bool) (F : Res) (K : Unit → Res) : okF b F K = if b = true then K () else F := by cases b <;> rfl
/-- Whatever reads as the one reads as the other. -/
def SameD (d x : DV) : Prop := ∀ (j j' : J) (v : Value), VR j x v → VR j' d v
theorem eqY_or (u : Bool) (t : List (Nat × Nat)) (x : DV) (F : Res) (K : Unit → Res) : eqY (.sy u t) x F K = F ∨ (SameD (.sy u t) x ∧ eqY (.sy u t) x F K = K ()) := by
  unfold eqY
  simp only [asSy_eq, okF_eq]
  by_cases h : u = true
  case neg => rw [if_neg h]; exact .inl rfl
  rw [if_pos h]
  cases x
  any_goals exact .inl rfl
  rename_i w s
  simp only []
  by_cases h2 : w = true
  case neg => rw [if_neg h2]; exact .inl rfl
  rw [if_pos h2]
  subst h; subst h2
  cases t with
  | nil => exact .inl rfl
  | cons p t =>
    cases s with
    | nil => exact .inl rfl
    | cons q s =>
      show okF (Nat.beq p.1 q.1) F (fun _ => okF (Nat.beq p.2 q.2) F K) = F ∨ _ ∧ okF (Nat.beq p.1 q.1) F (fun _ => okF (Nat.beq p.2 q.2) F K) = K ()
      simp only [okF_eq]
      by_cases h3 : Nat.beq p.1 q.1 = true
      · rw [if_pos h3]
        by_cases h4 : Nat.beq p.2 q.2 = true
        · rw [if_pos h4]
          have h3 := Nat.eq_of_beq_eq_true h3
          have h4 := Nat.eq_of_beq_eq_true h4
          refine .inr ⟨fun j j' v hv => ?_, rfl⟩
          cases hv
          have : S2 (q :: s) = S2 (p :: t) := by simp only [S2, h3, h4]
          rw [this]
          exact .syu _
        · rw [if_neg h4]; exact .inl rfl
      · rw [if_neg h3]; exact .inl rfl
theorem eqS_or (d x : DV) (F : Res) (K : Unit → Res) : eqS d x F K = F ∨ (SameD d x ∧ eqS d x F K = K ()) := by
  unfold eqS
  simp only [asI_eq, asB_eq, asS_eq, nilsK_eq, okF_eq]
  cases d
  case sy u t => exact eqY_or u t x F K
  case bool b =>
    cases x
    any_goals exact .inl rfl
    rename_i c
    simp only []
    by_cases h : beqB b c = true
    · rw [if_pos h]
      have : b = c := by cases b <;> cases c <;> first | rfl | cases h
      subst this
      exact .inr ⟨fun j j' v hv => by cases hv; exact .bool _, rfl⟩
    · rw [if_neg h]; exact .inl rfl
  case int k n =>
    cases x
    any_goals exact .inl rfl
    simp only []
    rename_i j m
    by_cases h : sameK k j = true
    · rw [if_pos h]
      by_cases h2 : ieq n m = true
      · rw [if_pos h2]
        rw [ieq_eq, decide_eq_true_eq] at h2
        have := sameK_eq h
        subst this; subst h2
        exact .inr ⟨fun j j' v hv => by cases hv; exact .int _ _, rfl⟩
      · rw [if_neg h2]; exact .inl rfl
    · rw [if_neg h]; exact .inl rfl
  case str n c =>
    cases x
    any_goals exact .inl rfl
    simp only []
    rename_i m b
    by_cases h : Nat.beq n m = true
    · rw [if_pos h]
      by_cases h2 : Nat.beq c b = true
      · rw [if_pos h2]
        have h := Nat.eq_of_beq_eq_true h
        have h2 := Nat.eq_of_beq_eq_true h2
        subst h; subst h2
        exact .inr ⟨fun j j' v hv => by cases hv; exact .str ‹_› ‹_›, rfl⟩
      · rw [if_neg h2]; exact .inl rfl
    · rw [if_neg h]; exact .inl rfl
  case nils =>
    cases x
    any_goals exact .inl rfl
    exact .inr ⟨fun j j' v hv => by cases hv; exact .nils, rfl⟩
  all_goals exact .inl rfl

/-- How cells read; 'B': what a block holds. -/
def Rd (B : P → List DV → Prop) : T → List DV → Prop
  | .nil, l => l = []
  | .cons a t, l => ∃ x xs, l = x :: xs ∧ Rd B a [x] ∧ Rd B t xs
  | .v d, l => ∃ x, l = [x] ∧ SameD d x
  | .any, l => ∃ x, l = [x]
  | .ptr t, l => ∃ k o c, l = [.ptr k o] ∧ B k c ∧ o ≤ c.length ∧ t.len ≤ (c.drop o).length ∧ Rd B t ((c.drop o).take t.len)
  | .sl n sz t, l => ∃ k o cp c, l = [.sl k o n cp sz] ∧ 1 ≤ n ∧ B k c ∧ o ≤ c.length ∧ n * sz ≤ (c.drop o).length ∧ Rd B t ((c.drop o).take (n * sz))
  | .agg t, l => ∃ c, l = [.agg c] ∧ Rd B t c
  | .tup t, l => ∃ c, l = [.tup c] ∧ Rd B t c
def blkR (h : Hp) (k : P) (c : List DV) : Prop := Tr.get? k h = some (.cells c) ∨ Tr.get? k h = some (.ro c)
def blkW (h : Hp) (k : P) (c : List DV) : Prop := Tr.get? k h = some (.cells c)

section
variable {h : Hp} {F : Res} {K : Unit → Res}
theorem onL_or {l : List DV} {G : DV → Res} : onL l F G = F ∨ ∃ x, l = [x] ∧ onL l F G = G x := by
  match l with
  | [] => exact .inl rfl
  | [x] => exact .inr ⟨x, rfl, rfl⟩
  | _ :: _ :: _ => exact .inl rfl
theorem objK_or {k : P} {G : List DV → Res} : objK k h F G = F ∨ ∃ c, blkR h k c ∧ objK k h F G = G c := by
  rw [objK_eq]
  unfold blkR
  cases Tr.get? k h with
  | none => exact .inl rfl
  | some o => cases o <;> first | exact .inl rfl | exact .inr ⟨_, .inl rfl, rfl⟩ | exact .inr ⟨_, .inr rfl, rfl⟩
theorem ownK_or {k : P} {G : List DV → Res} : ownK k h F G = F ∨ ∃ c, blkW h k c ∧ ownK k h F G = G c := by
  rw [ownK_eq]
  unfold blkW
  cases Tr.get? k h with
  | none => exact .inl rfl
  | some o => cases o <;> first | exact .inl rfl | exact .inr ⟨_, rfl, rfl⟩
/-- a part of a block -/
theorem part_or {o n : Nat} {c : List DV} {G : List DV → Res} : dropK o c F (fun t => takeK n t F G) = F ∨ (o ≤ c.length ∧ n ≤ (c.drop o).length ∧ dropK o c F (fun t => takeK n t F G) = G ((c.drop o).take n)) := by
  rw [dropK_eq]
  by_cases h1 : o ≤ c.length
  · rw [if_pos h1, takeK_eq]
    by_cases h2 : n ≤ (c.drop o).length
    · rw [if_pos h2]; exact .inr ⟨h1, h2, rfl⟩
    · rw [if_neg h2]; exact .inl rfl
  · rw [if_neg h1]; exact .inl rfl
end
theorem okF_or {b : Bool} {F : Res} {K : Unit → Res} : okF b F K = F ∨ (b = true ∧ okF b F K = K ()) := by cases b <;> first | exact .inl rfl | exact .inr ⟨rfl, rfl⟩
theorem rdT_or (t : T) : ∀ (h : Hp) (l : List DV) (F : Res) (K : Unit → Res), rdT t h l F K = F ∨ (Rd (blkR h) t l ∧ rdT t h l F K = K ()) := by
  induction t with
  | nil => intro h l F K; cases l with
    | nil => exact .inr ⟨rfl, rfl⟩
    | cons x l => exact .inl rfl
  | cons a t iha iht => intro h l F K; cases l with
    | nil => exact .inl rfl
    | cons x l =>
      show rdT a h [x] F (fun _ => rdT t h l F K) = F ∨ _ ∧ rdT a h [x] F (fun _ => rdT t h l F K) = K ()
      rcases iha h [x] F (fun _ => rdT t h l F K) with h1 | ⟨h1, h2⟩
      · exact .inl h1
      · rcases iht h l F K with h3 | ⟨h3, h4⟩
        · exact .inl (h2.trans h3)
        · exact .inr ⟨⟨x, l, rfl, h1, h3⟩, h2.trans h4⟩
  | v d =>
    intro h l F K
    show onL l F (fun x => eqS d x F K) = F ∨ _ ∧ onL l F (fun x => eqS d x F K) = K ()
    rcases onL_or (l := l) (F := F) (G := fun x => eqS d x F K) with h1 | ⟨x, rfl, h1⟩
    · exact .inl h1
    · rcases eqS_or d x F K with h2 | ⟨h2, h3⟩
      · exact .inl (h1.trans h2)
      · exact .inr ⟨⟨x, rfl, h2⟩, h1.trans h3⟩
  | any =>
    intro h l F K
    rcases onL_or (l := l) (F := F) (G := fun _ => K ()) with h1 | ⟨x, rfl, h1⟩
    · exact .inl h1
    · exact .inr ⟨⟨x, rfl⟩, h1⟩
  | ptr t ih =>
    intro h l F K
    show onL l F (fun x => asP x F fun k o => objK k h F fun c => dropK o c F fun u => takeK (T.len t) u F fun c => rdT t h c F K) = F ∨ _ ∧ onL l F (fun x => asP x F fun k o => objK k h F fun c => dropK o c F fun u => takeK (T.len t) u F fun c => rdT t h c F K) = K ()
    rcases onL_or (l := l) (F := F) (G := fun x => asP x F fun k o => objK k h F fun c => dropK o c F fun u => takeK (T.len t) u F fun c => rdT t h c F K) with h1 | ⟨x, rfl, h1⟩
    · exact .inl h1
    · rw [h1, asP_eq]
      cases x
      any_goals exact .inl rfl
      simp only []
      rename_i k o
      rcases objK_or (h := h) (k := k) (F := F) (G := fun c => dropK o c F fun u => takeK (T.len t) u F fun c => rdT t h c F K) with h2 | ⟨c, h2, h3⟩
      · exact .inl h2
      · rcases part_or (o := o) (n := T.len t) (c := c) (F := F) (G := fun c => rdT t h c F K) with h4 | ⟨h4, h5, h6⟩
        · exact .inl (h3.trans h4)
        · rcases ih h _ F K with h7 | ⟨h7, h8⟩
          · exact .inl (h3.trans (h6.trans h7))
          · exact .inr ⟨⟨k, o, c, rfl, h2, h4, h5, h7⟩, h3.trans (h6.trans h8)⟩
  | sl n sz t ih =>
    intro h l F K
    let G : DV → Res := fun x => asSl x F fun k o m _ s => okF (Nat.beq n m) F fun _ => okF (Nat.beq sz s) F fun _ => okF (Nat.ble (nat_lit 1) n) F fun _ => objK k h F fun c => dropK o c F fun u => takeK (Nat.mul n sz) u F fun c => rdT t h c F K
    show onL l F G = F ∨ _ ∧ onL l F G = K ()
    rcases onL_or (l := l) (F := F) (G := G) with h1 | ⟨x, rfl, h1⟩
    · exact .inl h1
    · rw [h1]
      show (asSl x F _) = F ∨ _ ∧ asSl x F _ = K ()
      rw [asSl_eq]
      cases x
      any_goals exact .inl rfl
      simp only []
      rename_i k o m cp s
      rcases okF_or (b := Nat.beq n m) (F := F) (K := fun _ => okF (Nat.beq sz s) F fun _ => okF (Nat.ble (nat_lit 1) n) F fun _ => objK k h F fun c => dropK o c F fun u => takeK (Nat.mul n sz) u F fun c => rdT t h c F K) with h2 | ⟨h2, h3⟩
      · exact .inl h2
      rcases okF_or (b := Nat.beq sz s) (F := F) (K := fun _ => okF (Nat.ble (nat_lit 1) n) F fun _ => objK k h F fun c => dropK o c F fun u => takeK (Nat.mul n sz) u F fun c => rdT t h c F K) with h4 | ⟨h4, h5⟩
      · exact .inl (h3.trans h4)
      rcases okF_or (b := Nat.ble (nat_lit 1) n) (F := F) (K := fun _ => objK k h F fun c => dropK o c F fun u => takeK (Nat.mul n sz) u F fun c => rdT t h c F K) with h6 | ⟨h6, h7⟩
      · exact .inl (h3.trans (h5.trans h6))
      rcases objK_or (h := h) (k := k) (F := F) (G := fun c => dropK o c F fun u => takeK (Nat.mul n sz) u F fun c => rdT t h c F K) with h8 | ⟨c, h8, h9⟩
      · exact .inl (h3.trans (h5.trans (h7.trans h8)))
      rcases part_or (o := o) (n := Nat.mul n sz) (c := c) (F := F) (G := fun c => rdT t h c F K) with ha | ⟨ha, hb, hd⟩
      · exact .inl (h3.trans (h5.trans (h7.trans (h9.trans ha))))
      rcases ih h _ F K with he | ⟨he, hf⟩
      · exact .inl (h3.trans (h5.trans (h7.trans (h9.trans (hd.trans he)))))
      · have h2 := Nat.eq_of_beq_eq_true h2
        have h4 := Nat.eq_of_beq_eq_true h4
        subst h2; subst h4
        exact .inr ⟨⟨k, o, cp, c, rfl, Nat.ble_eq.mp h6, h8, ha, hb, he⟩, h3.trans (h5.trans (h7.trans (h9.trans (hd.trans hf))))⟩
  | agg t ih =>
    intro h l F K
    show onL l F (fun x => asA x F fun c => rdT t h c F K) = F ∨ _ ∧ onL l F (fun x => asA x F fun c => rdT t h c F K) = K ()
    rcases onL_or (l := l) (F := F) (G := fun x => asA x F fun c => rdT t h c F K) with h1 | ⟨x, rfl, h1⟩
    · exact .inl h1
    · rw [h1, asA_eq]
      cases x
      any_goals exact .inl rfl
      simp only []
      rename_i c
      rcases ih h c F K with h2 | ⟨h2, h3⟩
      · exact .inl h2
      · exact .inr ⟨⟨c, rfl, h2⟩, h3⟩
  | tup t ih =>
    intro h l F K
    show onL l F (fun x => asT x F fun c => rdT t h c F K) = F ∨ _ ∧ onL l F (fun x => asT x F fun c => rdT t h c F K) = K ()
    rcases onL_or (l := l) (F := F) (G := fun x => asT x F fun c => rdT t h c F K) with h1 | ⟨x, rfl, h1⟩
    · exact .inl h1
    · rw [h1, asT_eq]
      cases x
      any_goals exact .inl rfl
      simp only []
      rename_i c
      rcases ih h c F K with h2 | ⟨h2, h3⟩
      · exact .inl h2
      · exact .inr ⟨⟨c, rfl, h2⟩, h3⟩
theorem rwT_or (t : T) : ∀ (h : Hp) (l : List DV) (F : Res) (K : Unit → Res), rwT t h l F K = F ∨ (Rd (blkW h) t l ∧ rwT t h l F K = K ()) := by
  induction t with
  | nil => intro h l F K; cases l with
    | nil => exact .inr ⟨rfl, rfl⟩
    | cons x l => exact .inl rfl
  | cons a t iha iht => intro h l F K; cases l with
    | nil => exact .inl rfl
    | cons x l =>
      show rwT a h [x] F (fun _ => rwT t h l F K) = F ∨ _ ∧ rwT a h [x] F (fun _ => rwT t h l F K) = K ()
      rcases iha h [x] F (fun _ => rwT t h l F K) with h1 | ⟨h1, h2⟩
      · exact .inl h1
      · rcases iht h l F K with h3 | ⟨h3, h4⟩
        · exact .inl (h2.trans h3)
        · exact .inr ⟨⟨x, l, rfl, h1, h3⟩, h2.trans h4⟩
  | v d =>
    intro h l F K
    show onL l F (fun x => eqS d x F K) = F ∨ _ ∧ onL l F (fun x => eqS d x F K) = K ()
    rcases onL_or (l := l) (F := F) (G := fun x => eqS d x F K) with h1 | ⟨x, rfl, h1⟩
    · exact .inl h1
    · rcases eqS_or d x F K with h2 | ⟨h2, h3⟩
      · exact .inl (h1.trans h2)
      · exact .inr ⟨⟨x, rfl, h2⟩, h1.trans h3⟩
  | any =>
    intro h l F K
    rcases onL_or (l := l) (F := F) (G := fun _ => K ()) with h1 | ⟨x, rfl, h1⟩
    · exact .inl h1
    · exact .inr ⟨⟨x, rfl⟩, h1⟩
  | ptr t ih =>
    intro h l F K
    show onL l F (fun x => asP x F fun k o => ownK k h F fun c => dropK o c F fun u => takeK (T.len t) u F fun c => rwT t h c F K) = F ∨ _ ∧ onL l F (fun x => asP x F fun k o => ownK k h F fun c => dropK o c F fun u => takeK (T.len t) u F fun c => rwT t h c F K) = K ()
    rcases onL_or (l := l) (F := F) (G := fun x => asP x F fun k o => ownK k h F fun c => dropK o c F fun u => takeK (T.len t) u F fun c => rwT t h c F K) with h1 | ⟨x, rfl, h1⟩
    · exact .inl h1
    · rw [h1, asP_eq]
      cases x
      any_goals exact .inl rfl
      simp only []
      rename_i k o
      rcases ownK_or (h := h) (k := k) (F := F) (G := fun c => dropK o c F fun u => takeK (T.len t) u F fun c => rwT t h c F K) with h2 | ⟨c, h2, h3⟩
      · exact .inl h2
      · rcases part_or (o := o) (n := T.len t) (c := c) (F := F) (G := fun c => rwT t h c F K) with h4 | ⟨h4, h5, h6⟩
        · exact .inl (h3.trans h4)
        · rcases ih h _ F K with h7 | ⟨h7, h8⟩
          · exact .inl (h3.trans (h6.trans h7))
          · exact .inr ⟨⟨k, o, c, rfl, h2, h4, h5, h7⟩, h3.trans (h6.trans h8)⟩
  | sl n sz t ih =>
    intro h l F K
    let G : DV → Res := fun x => asSl x F fun k o m _ s => okF (Nat.beq n m) F fun _ => okF (Nat.beq sz s) F fun _ => okF (Nat.ble (nat_lit 1) n) F fun _ => ownK k h F fun c => dropK o c F fun u => takeK (Nat.mul n sz) u F fun c => rwT t h c F K
    show onL l F G = F ∨ _ ∧ onL l F G = K ()
    rcases onL_or (l := l) (F := F) (G := G) with h1 | ⟨x, rfl, h1⟩
    · exact .inl h1
    · rw [h1]
      show (asSl x F _) = F ∨ _ ∧ asSl x F _ = K ()
      rw [asSl_eq]
      cases x
      any_goals exact .inl rfl
      simp only []
      rename_i k o m cp s
      rcases okF_or (b := Nat.beq n m) (F := F) (K := fun _ => okF (Nat.beq sz s) F fun _ => okF (Nat.ble (nat_lit 1) n) F fun _ => ownK k h F fun c => dropK o c F fun u => takeK (Nat.mul n sz) u F fun c => rwT t h c F K) with h2 | ⟨h2, h3⟩
      · exact .inl h2
      rcases okF_or (b := Nat.beq sz s) (F := F) (K := fun _ => okF (Nat.ble (nat_lit 1) n) F fun _ => ownK k h F fun c => dropK o c F fun u => takeK (Nat.mul n sz) u F fun c => rwT t h c F K) with h4 | ⟨h4, h5⟩
      · exact .inl (h3.trans h4)
      rcases okF_or (b := Nat.ble (nat_lit 1) n) (F := F) (K := fun _ => ownK k h F fun c => dropK o c F fun u => takeK (Nat.mul n sz) u F fun c => rwT t h c F K) with h6 | ⟨h6, h7⟩
      · exact .inl (h3.trans (h5.trans h6))
      rcases ownK_or (h := h) (k := k) (F := F) (G := fun c => dropK o c F fun u => takeK (Nat.mul n sz) u F fun c => rwT t h c F K) with h8 | ⟨c, h8, h9⟩
      · exact .inl (h3.trans (h5.trans (h7.trans h8)))
      rcases part_or (o := o) (n := Nat.mul n sz) (c := c) (F := F) (G := fun c => rwT t h c F K) with ha | ⟨ha, hb, hd⟩
      · exact .inl (h3.trans (h5.trans (h7.trans (h9.trans ha))))
      rcases ih h _ F K with he | ⟨he, hf⟩
      · exact .inl (h3.trans (h5.trans (h7.trans (h9.trans (hd.trans he)))))
      · have h2 := Nat.eq_of_beq_eq_true h2
        have h4 := Nat.eq_of_beq_eq_true h4
        subst h2; subst h4
        exact .inr ⟨⟨k, o, cp, c, rfl, Nat.ble_eq.mp h6, h8, ha, hb, he⟩, h3.trans (h5.trans (h7.trans (h9.trans (hd.trans hf))))⟩
  | agg t ih =>
    intro h l F K
    show onL l F (fun x => asA x F fun c => rwT t h c F K) = F ∨ _ ∧ onL l F (fun x => asA x F fun c => rwT t h c F K) = K ()
    rcases onL_or (l := l) (F := F) (G := fun x => asA x F fun c => rwT t h c F K) with h1 | ⟨x, rfl, h1⟩
    · exact .inl h1
    · rw [h1, asA_eq]
      cases x
      any_goals exact .inl rfl
      simp only []
      rename_i c
      rcases ih h c F K with h2 | ⟨h2, h3⟩
      · exact .inl h2
      · exact .inr ⟨⟨c, rfl, h2⟩, h3⟩
  | tup t ih =>
    intro h l F K
    show onL l F (fun x => asT x F fun c => rwT t h c F K) = F ∨ _ ∧ onL l F (fun x => asT x F fun c => rwT t h c F K) = K ()
    rcases onL_or (l := l) (F := F) (G := fun x => asT x F fun c => rwT t h c F K) with h1 | ⟨x, rfl, h1⟩
    · exact .inl h1
    · rw [h1, asT_eq]
      cases x
      any_goals exact .inl rfl
      simp only []
      rename_i c
      rcases ih h c F K with h2 | ⟨h2, h3⟩
      · exact .inl h2
      · exact .inr ⟨⟨c, rfl, h2⟩, h3⟩
end Go.Proofs.YtnoekfkfinjfgaaGreatDoor.Dx
