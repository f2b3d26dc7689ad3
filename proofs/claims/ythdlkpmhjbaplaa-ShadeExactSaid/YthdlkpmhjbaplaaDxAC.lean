/- The small machine's other instructions, those that call nothing: each one's step beside Go's. No statement of this seat is proved here. -/
import Derived.Test.YthdlkpmhjbaplaaDxAB
set_option autoImplicit false
noncomputable section
namespace Go.Proofs.Ythdlkpmhjbaplaa.Dx
open Go

section
variable {Pr : Program} {F : Tr Fd} {ih : Ih} {wm : Option P} {e : Env} {nx : P} {h : Hp} {k : Kv} {out : Out} {eo : Env} {no : P} {ho : Hp} {o : Oper}

theorem mem_apz {sz bt : Nat} {z : List DV} {s x : Opd} (H : insK (.apz sz bt z s x) F ih wm e nx h k = .ok out eo no ho) (hc : chkMem Pr (.apz sz bt z s x) o.op = true) : Step Pr o wm e nx h k (.ok out eo no ho) := by
  cases hop : o.op <;> simp only [chkMem, hop, Bool.false_eq_true] at hc
  rename_i c
  obtain ⟨y, y', t, t', rfl, hf⟩ := chkCall2_spec hc
  simp only [Bool.and_eq_true] at hf
  obtain ⟨⟨hs, hx⟩, hA⟩ := hf
  change nilsK (ev s e) .fail (fun _ => asI (ev x e) .fail fun _ x => natI x fun n => chk (Nat.ble (Nat.mul n bt) (nat_lit 1073741824)) fun _ =>
    Bool.rec (motive := fun _ => Res) (apzN sz z n e nx h k) (k e .nils nx h) (Nat.beq n (nat_lit 0))) = _ at H
  rw [nilsK_eq] at H
  cases hse : ev s e <;> simp only [hse, reduceCtorEq] at H
  rw [asI_eq] at H
  cases hxe : ev x e <;> simp only [hxe, reduceCtorEq] at H
  rename_i kk i
  rw [natI_eq] at H
  by_cases h1 : 0 ≤ i
  case neg => rw [if_neg h1] at H; cases H
  rw [if_pos h1, chk_eq, ble_if] at H
  change (if i.toNat * bt ≤ 1073741824 then _ else _) = _ at H
  by_cases h2 : i.toNat * bt ≤ 1073741824
  case neg => rw [if_neg h2] at H; cases H
  rw [if_pos h2, brec_if, beq_if] at H
  have hi : i = (i.toNat : Int) := by omega
  generalize i.toNat = n at *
  subst hi
  by_cases h3 : n = 0
  · rw [if_pos h3] at H
    subst h3
    exact ⟨_, _, _, _, H, (memOk_apz0 hop hs hx hA hse hxe).op, Moves.same _ _ _ _⟩
  · rw [if_neg h3] at H
    unfold apzN at H
    rw [repZ_eq] at H
    unfold apNew at H
    rw [catK_eq, forceN_eq, newK_eq] at H
    change k e (.sl nx 0 (0 + n) none sz) nx.suc (Tr.set nx h (some (.cells (reps z n)))) = _ at H
    rw [Nat.zero_add] at H
    exact ⟨_, _, _, _, H, (memOk_apz hop hs hx hA hse hxe h3 h2).op, Moves.new⟩
theorem mem_msl {sz bt : Nat} {z : List DV} {s x : Opd} (H : insK (.msl sz bt z s x) F ih wm e nx h k = .ok out eo no ho) (hc : chkMem Pr (.msl sz bt z s x) o.op = true) : Step Pr o wm e nx h k (.ok out eo no ho) := by
  cases hop : o.op <;> simp only [chkMem, hop, Bool.false_eq_true] at hc
  rename_i t y y'
  simp only [Bool.and_eq_true] at hc
  obtain ⟨⟨hs, hx⟩, hA⟩ := hc
  change asI (ev s e) .fail (fun _ x' => natI x' fun n => asI (ev x e) .fail fun _ y => natI y fun c => chk (Nat.ble n c) fun _ =>
    chk (Nat.ble (Nat.mul bt c) (nat_lit 1073741824)) fun _ => repZ z c fun l => forceN n fun n => forceN c fun c => newK l e nx h (fun b => .sl b (nat_lit 0) n (some c) sz) k) = _ at H
  rw [asI_eq] at H
  cases hse : ev s e <;> simp only [hse, reduceCtorEq] at H
  rename_i k1 i1
  rw [natI_eq] at H
  by_cases h1 : 0 ≤ i1
  case neg => rw [if_neg h1] at H; cases H
  rw [if_pos h1, asI_eq] at H
  cases hxe : ev x e <;> simp only [hxe, reduceCtorEq] at H
  rename_i k2 i2
  rw [natI_eq] at H
  by_cases h2 : 0 ≤ i2
  case neg => rw [if_neg h2] at H; cases H
  rw [if_pos h2, chk_eq, ble_if] at H
  by_cases h3 : i1.toNat ≤ i2.toNat
  case neg => rw [if_neg h3] at H; cases H
  rw [if_pos h3, chk_eq, ble_if] at H
  change (if bt * i2.toNat ≤ 1073741824 then _ else _) = _ at H
  by_cases h4 : bt * i2.toNat ≤ 1073741824
  case neg => rw [if_neg h4] at H; cases H
  rw [if_pos h4, repZ_eq, forceN_eq, forceN_eq, newK_eq] at H
  have hi1 : i1 = (i1.toNat : Int) := by omega
  have hi2 : i2 = (i2.toNat : Int) := by omega
  generalize i1.toNat = n1 at *
  generalize i2.toNat = n2 at *
  subst hi1; subst hi2
  exact ⟨_, _, _, _, H, (memOk_msl hop hs hx hA hse hxe h3 h4).op, Moves.new⟩
theorem mem_al {z : List DV} (H : insK (.al z) F ih wm e nx h k = .ok out eo no ho) (hc : chkMem Pr (.al z) o.op = true) : Step Pr o wm e nx h k (.ok out eo no ho) := by
  cases hop : o.op <;> simp only [chkMem, hop, Bool.false_eq_true] at hc
  rename_i t
  cases hi : Pr.info? t with
  | none => simp [hi] at hc
  | some it =>
    cases hz : it.zero with
    | none => simp [hi, hz] at hc
    | some zv =>
      simp only [hi, hz] at hc
      change newK z e nx h (fun n => .ptr n (nat_lit 0)) k = _ at H
      rw [newK_eq] at H
      exact ⟨_, _, _, _, H, (memOk_al hop hi hz hc).op, Moves.new⟩
theorem mem_bx {d : Opd} (H : insK (.bx d) F ih wm e nx h k = .ok out eo no ho) (hc : chkMem Pr (.bx d) o.op = true) : Step Pr o wm e nx h k (.ok out eo no ho) := by
  cases hop : o.op <;> simp only [chkMem, hop, Bool.false_eq_true] at hc
  rename_i t x
  change ovK d e (fun v => cellsK v .fail fun l => newK l e nx h (fun n => .ptr n (nat_lit 0)) k) = _ at H
  rw [ovK_eq, cellsK_eq] at H
  cases hl : (ov d e).cells with
  | none => simp only [hl, reduceCtorEq] at H
  | some l =>
    simp only [hl, newK_eq] at H
    exact ⟨_, _, _, _, H, (memOk_bx hop hc hl).op, Moves.new⟩
theorem mem_bsl {len sz : Nat} {z : List DV} {ps : List (Nat × Nat × Opd)} (H : insK (.bsl len sz z ps) F ih wm e nx h k = .ok out eo no ho) (hc : chkMem Pr (.bsl len sz z ps) o.op = true) : Step Pr o wm e nx h k (.ok out eo no ho) := by
  cases hop : o.op <;> simp only [chkMem, hop, Bool.false_eq_true] at hc
  change fillK ps z e (fun l => newK l e nx h (fun n => .sl n (nat_lit 0) len (some len) sz) k) = _ at H
  rw [fillK_eq] at H
  cases hl : fills e ps z with
  | none => simp only [hl, reduceCtorEq] at H
  | some l =>
    simp only [hl, newK_eq] at H
    rw [Bool.or_eq_true] at hc
    rcases hc with hc | hc
    · exact ⟨_, _, _, _, H, (memOk_bsl hop hc hl).op, Moves.new⟩
    · exact ⟨_, _, _, _, H, (memOk_bsl0 hop hc hl).op, Moves.new⟩
theorem mem_ld {d : Opd} (H : insK (.ld d) F ih wm e nx h k = .ok out eo no ho) (hc : chkMem Pr (.ld d) o.op = true) : Step Pr o wm e nx h k (.ok out eo no ho) := by
  cases hop : o.op <;> simp only [chkMem, hop, Bool.false_eq_true] at hc
  simp only [Bool.and_eq_true] at hc
  change readK (ev d e) e h .fail (fun l o => nthK l o .fail fun v => fV v fun v => k e v nx h) = _ at H
  rw [readK_eq] at H
  cases hl : look (ev d e) e h with
  | none => simp only [hl, reduceCtorEq] at H
  | some p =>
    obtain ⟨l, i⟩ := p
    simp only [hl, nthK_eq] at H
    cases hv : l[i]? with
    | none => simp only [hv, reduceCtorEq] at H
    | some v =>
      simp only [hv, fV_eq] at H
      exact ⟨_, _, _, _, H, (memOk_ld hop hc.1 hc.2 hl hv).op, Moves.same _ _ _ _⟩
theorem mem_lda {n : Nat} {d : Opd} (H : insK (.lda n d) F ih wm e nx h k = .ok out eo no ho) (hc : chkMem Pr (.lda n d) o.op = true) : Step Pr o wm e nx h k (.ok out eo no ho) := by
  cases hop : o.op <;> simp only [chkMem, hop, Bool.false_eq_true] at hc
  simp only [Bool.and_eq_true] at hc
  change readK (ev d e) e h .fail (fun l o => dropK o l .fail fun t => takeK n t .fail fun r => k e (.agg r) nx h) = _ at H
  rw [readK_eq] at H
  cases hl : look (ev d e) e h with
  | none => simp only [hl, reduceCtorEq] at H
  | some p =>
    obtain ⟨l, i⟩ := p
    simp only [hl, dropK_eq, takeK_eq] at H
    by_cases h1 : i ≤ l.length
    case neg => rw [if_neg h1] at H; cases H
    rw [if_pos h1] at H
    by_cases h2 : n ≤ (l.drop i).length
    case neg => rw [if_neg h2] at H; cases H
    rw [if_pos h2] at H
    exact ⟨_, _, _, _, H, (memOk_lda hop hc.1.1 hc.1.2 hc.2 hl h2).op, Moves.same _ _ _ _⟩
theorem mem_st {n : Nat} {d dv : Opd} (H : insK (.st n d dv) F ih wm e nx h k = .ok out eo no ho) (hc : chkMem Pr (.st n d dv) o.op = true) : Step Pr o wm e nx h k (.ok out eo no ho) := by
  cases hop : o.op <;> simp only [chkMem, hop, Bool.false_eq_true] at hc
  simp only [Bool.and_eq_true] at hc
  obtain ⟨⟨hd, hdv⟩, hs⟩ := hc
  change ovK dv e (fun v => cellsK v .fail fun c => chk (isLen c n) fun _ => asP (ev d e) (asFl (ev d e) .fail (stF e nx h k c)) (stP wm e nx h k c)) = _ at H
  rw [ovK_eq, cellsK_eq] at H
  cases hl : (ov dv e).cells with
  | none => simp only [hl, reduceCtorEq] at H
  | some c =>
    simp only [hl] at H
    rw [chk_eq, isLen_eq] at H
    by_cases h1 : c.length = n
    case neg => rw [if_neg (by simpa using h1)] at H; cases H
    rw [if_pos (by simpa using h1), asP_eq, asFl_eq] at H
    cases hde : ev d e <;> simp only [hde, reduceCtorEq] at H
    case ptr b i =>
      unfold stP at H
      rw [wOk_eq] at H
      by_cases h2 : may wm b
      case neg => rw [if_neg h2] at H; cases H
      rw [if_pos h2, ownK_eq] at H
      cases hg : Tr.get? b h with
      | none => simp only [hg, reduceCtorEq] at H
      | some ob =>
        cases ob <;> simp only [hg, reduceCtorEq] at H
        rename_i l
        rw [sprK_eq] at H
        by_cases h3 : i + c.length ≤ l.length
        case neg => rw [if_neg h3] at H; cases H
        rw [if_pos h3, Tr.setK_eq] at H
        exact ⟨_, _, _, _, H, (memOk_st hop hd hdv hs hde hg hl h1 h3).op, Moves.put h2 hg⟩
    case fld p i =>
      unfold stF at H
      rw [varK_eq] at H
      cases hg : Tr.get? p e with
      | none => simp only [hg, reduceCtorEq] at H
      | some ob =>
        cases ob <;> simp only [hg, reduceCtorEq] at H
        rename_i l
        rw [sprK_eq] at H
        by_cases h3 : i + c.length ≤ l.length
        case neg => rw [if_neg h3] at H; cases H
        rw [if_pos h3, Tr.setK_eq] at H
        refine ⟨_, _, _, _, H, (memOk_stv hop hd hdv hs hde hg hl h1 h3).op, Nat.le_refl _, fun q => ?_, fun _ _ _ _ _ => rfl, fun h => h⟩
        by_cases hq : q = p
        · subst hq
          refine .inr ⟨l, _, hg, Tr.get_set_self _ _ _, ?_⟩
          simp; omega
        · exact .inl (Tr.get_set_ne hq _ _)

theorem mem_clr {sz : Nat} {z : List DV} {d : Opd} (H : insK (.clr sz z d) F ih wm e nx h k = .ok out eo no ho) (hc : chkMem Pr (.clr sz z d) o.op = true) : Step Pr o wm e nx h k (.ok out eo no ho) := by
  cases hop : o.op <;> simp only [chkMem, hop, Bool.false_eq_true] at hc
  rename_i c
  obtain ⟨x, t, rfl, hf⟩ := chkCall1_spec hc
  simp only [Bool.and_eq_true] at hf
  obtain ⟨hd, hA⟩ := hf
  change asSl (ev d e) (nilsK (ev d e) .fail fun _ => k e (.tup []) nx h) (fun b o n _ s => chk (Nat.beq s sz) fun _ => chk (isLen z sz) fun _ =>
    Bool.rec (motive := fun _ => Res) (clrB wm z e nx h k b o n) (k e (.tup []) nx h) (Nat.beq n (nat_lit 0))) = _ at H
  rw [asSl_eq, nilsK_eq] at H
  cases hde : ev d e <;> simp only [hde, reduceCtorEq] at H
  case nils => exact ⟨_, _, _, _, H, (memOk_clr0 hop hd hA (.inl hde)).op, Moves.same _ _ _ _⟩
  case sl b i n cp s =>
    rw [chk_eq, beq_if] at H
    by_cases h1 : s = sz
    case neg => rw [if_neg h1] at H; cases H
    rw [if_pos h1, chk_eq, isLen_eq] at H
    by_cases h2 : z.length = sz
    case neg => rw [if_neg (by simpa using h2)] at H; cases H
    rw [if_pos (by simpa using h2)] at H
    rcases Nat.eq_zero_or_pos n with h0 | h0
    · subst h0
      exact ⟨_, _, _, _, H, (memOk_clr0 hop hd hA (.inr ⟨_, _, _, _, hde⟩)).op, Moves.same _ _ _ _⟩
    · obtain ⟨m, rfl⟩ : ∃ m, n = m + 1 := ⟨n - 1, by omega⟩
      change clrB wm z e nx h k b i (m + 1) = _ at H
      unfold clrB at H
      rw [wOk_eq] at H
      by_cases h3 : may wm b
      case neg => rw [if_neg h3] at H; cases H
      rw [if_pos h3, ownK_eq] at H
      cases hg : Tr.get? b h with
      | none => simp only [hg, reduceCtorEq] at H
      | some ob =>
        cases ob <;> simp only [hg, reduceCtorEq] at H
        rename_i l
        rw [repZ_eq, sprK_eq] at H
        by_cases h4 : i + (reps z (m + 1)).length ≤ l.length
        case neg => rw [if_neg h4] at H; cases H
        rw [if_pos h4, Tr.setK_eq] at H
        exact ⟨_, _, _, _, H, (memOk_clr hop hd hA hde h0 hg h4).op, Moves.put h3 hg⟩
/-- no call -/
def isBad : Ins → Bool
  | .bad => true
  | _ => false
def chkIns (Pr : Program) (i : Ins) (op : Go.Op) : Bool := (isPure i && chkPure Pr i op) || (chkMem Pr i op || isBad i)

theorem ins_sim {i : Ins} (H : insK i F ih wm e nx h k = .ok out eo no ho) (hc : chkIns Pr i o.op = true) : Step Pr o wm e nx h k (.ok out eo no ho) := by
  unfold chkIns at hc
  rw [Bool.or_eq_true, Bool.and_eq_true, Bool.or_eq_true] at hc
  rcases hc with ⟨hp, hc⟩ | hc | hb
  · rw [insK_pure i hp] at H
    cases hv : pureDV i e with
    | none => simp only [hv, reduceCtorEq] at H
    | some v =>
      simp only [hv] at H
      exact ⟨_, _, _, _, H, (memOk_pure hv hc).op, Moves.same _ _ _ _⟩
  · cases i
    case app => exact mem_app H hc
    case apz => exact mem_apz H hc
    case msl => exact mem_msl H hc
    case al => exact mem_al H hc
    case bx => exact mem_bx H hc
    case bsl => exact mem_bsl H hc
    case ld => exact mem_ld H hc
    case lda => exact mem_lda H hc
    case st => exact mem_st H hc
    case clr => exact mem_clr H hc
    all_goals (unfold chkMem at hc; simp at hc)
  · cases i <;> first | (simp [isBad] at hb; done) | (change Res.fail = _ at H; cases H)
end
end Go.Proofs.Ythdlkpmhjbaplaa.Dx
