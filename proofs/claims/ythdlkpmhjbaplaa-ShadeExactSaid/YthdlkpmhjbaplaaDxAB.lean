/- The small machine's instructions, those that call nothing: each one's step beside Go's. No statement of this seat is proved here. -/
import Derived.Test.YthdlkpmhjbaplaaDxAA
set_option autoImplicit false
noncomputable section
namespace Go.Proofs.Ythdlkpmhjbaplaa.Dx
open Go

/-- A step of an operation, beside Go's, calls too. -/
def OpOk (Pr : Program) (o : Oper) (e : Env) (nx : P) (h : Hp) (e' : Env) (v : DV) (nx' : P) (h' : Hp) : Prop :=
  ∀ (L : P → Prop) (N hi : Nat) (j : J) (pv : P → Option Nat) (a : Act) (w : World), Rel L N hi j pv e nx h a w → nx'.n ≤ hi → ∀ (K : Act → World → Prop) (Q : Exit → Act → World → Prop),
    (∀ j' w' v', Rel L N hi j' pv e' nx' h' a w' → Fr hi nx.n j pv w j' pv w' → XD j' pv v v' → K (a.put o.dst v') w') → o.wp Pr a w K Q
theorem MemOk.op {Pr : Program} {o : Oper} {e : Env} {nx : P} {h : Hp} {e' : Env} {v : DV} {nx' : P} {h' : Hp} (H : MemOk Pr o e nx h e' v nx' h') : OpOk Pr o e nx h e' v nx' h' := by
  intro L N hi j pv a w R hnh K Q hK
  obtain ⟨j', w', nxt, v', hrun, hn, R', F', hx⟩ := H L N hi j pv a w R hnh
  unfold Oper.wp
  rw [hrun]
  rcases hn with rfl | ⟨rfl, rfl⟩
  · exact hK j' w' v' R' F' hx
  · exact hK j' w' undef R' F' hx

/-- What a step does to the small machine's own state. -/
structure Moves (wm : Option P) (e : Env) (nx : P) (h : Hp) (e' : Env) (nx' : P) (h' : Hp) : Prop where
  le : nx.n ≤ nx'.n
  env : ∀ p, Tr.get? p e' = Tr.get? p e ∨ ∃ l l', Tr.get? p e = some (.var l) ∧ Tr.get? p e' = some (.var l') ∧ l'.length = l.length
  old : ∀ m, wm = some m → m.n ≤ nx.n → ∀ k : P, k.n < m.n → Tr.get? k h' = Tr.get? k h
  top : (∀ k : P, nx.n ≤ k.n → Tr.get? k h = none) → ∀ k : P, nx'.n ≤ k.n → Tr.get? k h' = none
theorem Moves.same (wm : Option P) (e : Env) (nx : P) (h : Hp) : Moves wm e nx h e nx h := ⟨Nat.le_refl _, fun _ => .inl rfl, fun _ _ _ _ _ => rfl, fun h => h⟩
theorem Moves.new {wm : Option P} {e : Env} {nx : P} {h : Hp} {x : Option Ob} : Moves wm e nx h e nx.suc (Tr.set nx h x) :=
  ⟨by rw [P.n_suc]; omega, fun _ => .inl rfl, fun m _ hm k hk => Tr.get_set_ne (by rintro rfl; omega) _ _, fun ht k hk => by
    rw [P.n_suc] at hk; rw [Tr.get_set_ne (by rintro rfl; omega)]; exact ht k (by omega)⟩
theorem Moves.put {wm : Option P} {e : Env} {nx : P} {h : Hp} {b : P} {x : Option Ob} {y : Ob} (hb : may wm b) (hg : Tr.get? b h = some y) : Moves wm e nx h e nx (Tr.set b h x) :=
  ⟨Nat.le_refl _, fun _ => .inl rfl, fun m hm _ k hk => Tr.get_set_ne (by rintro rfl; have := hb m hm; omega) _ _, fun ht k hk => by
    have := ht k hk
    rw [Tr.get_set_ne (by rintro rfl; rw [hg] at this; cases this)]; exact this⟩
theorem Moves.put_new {wm : Option P} {e : Env} {nx : P} {h : Hp} {b : P} {x y : Option Ob} {z : Ob} (hb : may wm b) (hg : Tr.get? b h = some z) : Moves wm e nx h e nx.suc (Tr.set nx (Tr.set b h x) y) :=
  ⟨by rw [P.n_suc]; omega, fun _ => .inl rfl, fun m hm hmn k hk => by
    rw [Tr.get_set_ne (by rintro rfl; omega), Tr.get_set_ne (by rintro rfl; have := hb m hm; omega)], fun ht k hk => by
    rw [P.n_suc] at hk
    have := ht k (by omega)
    rw [Tr.get_set_ne (by rintro rfl; omega), Tr.get_set_ne (by rintro rfl; rw [hg] at this; cases this)]; exact this⟩
theorem Moves.trans {wm : Option P} {e e' e'' : Env} {nx nx' nx'' : P} {h h' h'' : Hp} (m1 : Moves wm e nx h e' nx' h') (m2 : Moves wm e' nx' h' e'' nx'' h'') : Moves wm e nx h e'' nx'' h'' :=
  ⟨Nat.le_trans m1.le m2.le, fun p => by
      rcases m2.env p with h2 | ⟨l, l', h2, h3, h4⟩
      · rw [h2]; exact m1.env p
      · rcases m1.env p with h1 | ⟨l0, l1, h5, h6, h7⟩
        · exact .inr ⟨l, l', by rw [← h1]; exact h2, h3, h4⟩
        · rw [h6] at h2; cases h2; exact .inr ⟨_, _, h5, h3, by omega⟩,
    fun m hm hmn k hk => by rw [m2.old m hm (Nat.le_trans hmn m1.le) k hk, m1.old m hm hmn k hk], fun ht => m2.top (m1.top ht)⟩

def chkCall2 (c : Call) (b : Builtin) (f : Operand → Operand → Nat → Nat → Bool) : Bool :=
  match c with
  | ⟨.builtin b', ⟨[x, y]⟩, ⟨[t, t']⟩⟩ => decide (b' = b) && f x y t t'
  | _ => false
def chkCall1 (c : Call) (b : Builtin) (f : Operand → Nat → Bool) : Bool :=
  match c with
  | ⟨.builtin b', ⟨[x]⟩, ⟨[t]⟩⟩ => decide (b' = b) && f x t
  | _ => false
def chkMem (Pr : Program) (i : Ins) (op : Go.Op) : Bool :=
  match i, op with
  | .al z, .alloc t => match Pr.info? t with
    | some it => match it.zero with
      | some zv => okCs z zv.cells.toList
      | none => false
    | none => false
  | .bx d, .box _ x => chkOpd d x
  | .bsl len sz z ps, .buildSlice t n qs => chkBsl Pr len sz z ps t n qs.toList || chkBsl0 Pr len sz z ps t n qs.toList
  | .ld d, .load t x => chkOpd d x && aggIs Pr t false
  | .lda n d, .load t x => chkOpd d x && aggIs Pr t true && sizeIs Pr t n
  | .st n d v, .store t x y => chkOpd d x && chkOpd v y && sizeIs Pr t n
  | .msl sz bt z l c, .makeSlice t x y => chkOpd l x && chkOpd c y && chkMsl Pr sz bt z t
  | .app sz bt s x, .call c => chkCall2 c .append fun y y' t t' => chkOpd s y && chkOpd x y' && chkApp Pr sz bt t t'
  | .clr _ z d, .call c => chkCall1 c .clear fun x t => chkOpd d x && chkClr Pr z t
  | .apz sz bt z s n, .call c => chkCall2 c .append fun y y' t t' => chkOpd s y && chkOpd n y' && chkApz Pr sz bt z t t'
  | _, _ => false
theorem chkCall2_spec {c : Call} {b : Builtin} {f : Operand → Operand → Nat → Nat → Bool} (h : chkCall2 c b f = true) : ∃ x y t t', c = ⟨.builtin b, #[x, y], #[t, t']⟩ ∧ f x y t t' = true := by
  unfold chkCall2 at h
  split at h
  · rename_i b' x y t t'
    simp only [Bool.and_eq_true, decide_eq_true_eq] at h
    exact ⟨x, y, t, t', by rw [h.1], h.2⟩
  · cases h

theorem chkCall1_spec {c : Call} {b : Builtin} {f : Operand → Nat → Bool} (h : chkCall1 c b f = true) : ∃ x t, c = ⟨.builtin b, #[x], #[t]⟩ ∧ f x t = true := by
  unfold chkCall1 at h
  split at h
  · rename_i b' x t
    simp only [Bool.and_eq_true, decide_eq_true_eq] at h
    exact ⟨x, t, by rw [h.1], h.2⟩
  · cases h

section
variable {Pr : Program} {F : Tr Fd} {ih : Ih} {wm : Option P} {e : Env} {nx : P} {h : Hp} {k : Kv} {out : Out} {eo : Env} {no : P} {ho : Hp} {o : Oper}

/-- A step that was made. -/
def Step (Pr : Program) (o : Oper) (wm : Option P) (e : Env) (nx : P) (h : Hp) (k : Kv) (r : Res) : Prop :=
  ∃ e' v nx' h', k e' v nx' h' = r ∧ OpOk Pr o e nx h e' v nx' h' ∧ Moves wm e nx h e' nx' h'

theorem mem_app {sz bt : Nat} {s x : Opd} (H : insK (.app sz bt s x) F ih wm e nx h k = .ok out eo no ho) (hc : chkMem Pr (.app sz bt s x) o.op = true) : Step Pr o wm e nx h k (.ok out eo no ho) := by
  cases hop : o.op <;> simp only [chkMem, hop, Bool.false_eq_true] at hc
  rename_i c
  obtain ⟨y, y', t, t', rfl, hf⟩ := chkCall2_spec hc
  simp only [Bool.and_eq_true] at hf
  obtain ⟨⟨hs, hx⟩, hA⟩ := hf
  obtain ⟨el, it, zv, A⟩ := chkApp_spec hA
  change asSl (ev x e) (nilsK (ev x e) .fail fun _ => apX sz bt (ev s e) e nx h k wm (nat_lit 0) []) (fun b o n _ s2 => chk (Nat.beq s2 sz) fun _ => slcK h b o n sz fun new => apX sz bt (ev s e) e nx h k wm n new) = _ at H
  rw [asSl_eq, nilsK_eq] at H
  -- nothing behind
  have zero : ∀ new, apX sz bt (ev s e) e nx h k wm 0 new = .ok out eo no ho → ((ev x e = .nils) ∨ ∃ b o c, ev x e = .sl b o 0 c sz ∧ slcV h b o 0 sz = some []) → Step Pr o wm e nx h k (.ok out eo no ho) := by
    intro new H' hxv
    change asSl (ev s e) (nilsK (ev s e) .fail fun _ => fV (ev s e) fun v => k e v nx h) (fun _ _ _ _ _ => fV (ev s e) fun v => k e v nx h) = _ at H'
    rw [asSl_eq, nilsK_eq] at H'
    have key : ∀ v, ev s e = v → ((ev s e = .nils) ∨ ∃ b o n c s', ev s e = .sl b o n c s') → fV v (fun v => k e v nx h) = .ok out eo no ho → Step Pr o wm e nx h k (.ok out eo no ho) := by
      intro v hv hsv H''
      rw [fV_eq, ← hv] at H''
      exact ⟨e, ev s e, nx, h, H'', (memOk_app0 hop hs hx A hsv hxv).op, Moves.same _ _ _ _⟩
    cases hse : ev s e <;> simp only [hse, reduceCtorEq] at H'
    case nils => exact key _ hse (.inl hse) H'
    case sl => exact key _ hse (.inr ⟨_, _, _, _, _, hse⟩) H'
  cases hxe : ev x e <;> simp only [hxe, reduceCtorEq] at H
  case nils => exact zero _ H (.inl hxe)
  case sl b2 o2 m c2 s2 =>
    rw [chk_eq, beq_if] at H
    by_cases h1 : s2 = sz
    case neg => rw [if_neg h1] at H; cases H
    rw [if_pos h1] at H
    subst h1
    rw [slcK_eq] at H
    cases hnew : slcV h b2 o2 m s2 with
    | none => simp only [hnew, reduceCtorEq] at H
    | some new =>
      simp only [hnew] at H
      rcases Nat.eq_zero_or_pos m with hm | hm
      · subst hm
        refine zero _ H (.inr ⟨_, _, _, hxe, ?_⟩)
        have hl : new = [] := by
          unfold slcV at hnew
          cases hal : alive b2 h with
          | none => simp [hal] at hnew
          | some l =>
            simp only [hal] at hnew
            split at hnew
            · simp at hnew; exact hnew
            · cases hnew
        rw [hnew, hl]
      · have hmb : Nat.beq m 0 = false := by cases m with
          | zero => omega
          | succ m => rfl
        unfold apX at H
        rw [show (nat_lit 0) = 0 from rfl, hmb] at H
        change asSl (ev s e) (nilsK (ev s e) .fail fun _ => chk (Nat.ble (Nat.mul m bt) (nat_lit 35184372088832)) fun _ => apNew s2 (nat_lit 0) m [] new e nx h k) (apSl s2 bt e nx h k wm m new) = _ at H
        rw [asSl_eq, nilsK_eq] at H
        have apn : ∀ (n : Nat) (old : List DV) (h : Hp), apNew s2 n m old new e nx h k = k e (.sl nx 0 (n + m) none s2) nx.suc (Tr.set nx h (some (.cells (old ++ new)))) := by
          intro n old h
          unfold apNew
          rw [catK_eq, forceN_eq, newK_eq]; rfl
        cases hse : ev s e <;> simp only [hse, reduceCtorEq] at H
        case nils =>
          rw [chk_eq, ble_if] at H
          change (if m * bt ≤ 35184372088832 then _ else _) = _ at H
          by_cases h2 : m * bt ≤ 35184372088832
          case neg => rw [if_neg h2] at H; cases H
          rw [if_pos h2, apn] at H
          exact ⟨_, _, _, _, H, (memOk_appNew hop hs hx A (old := []) (n := 0) (.inl ⟨hse, rfl, rfl, hm⟩) hxe hnew (by rw [Nat.zero_add]; exact h2)).op, Moves.new⟩
        case sl b o1 n cp s3 =>
          unfold apSl at H
          rw [chk_eq, beq_if] at H
          by_cases h3 : s3 = s2
          case neg => rw [if_neg h3] at H; cases H
          rw [if_pos h3, chk_eq, ble_if] at H
          subst h3
          change (if (n + m) * bt ≤ 35184372088832 then _ else _) = _ at H
          by_cases h4 : (n + m) * bt ≤ 35184372088832
          case neg => rw [if_neg h4] at H; cases H
          rw [if_pos h4] at H
          cases cp with
          | none =>
            change wOk wm b .fail (fun _ => ownK b h .fail fun l => dropK o1 l .fail fun t => takeK (n * s3) t .fail fun old => Tr.setK b h (some .dead) fun h => apNew s3 n m old new e nx h k) = _ at H
            rw [wOk_eq] at H
            by_cases h5 : may wm b
            case neg => rw [if_neg h5] at H; cases H
            rw [if_pos h5, ownK_eq] at H
            cases hg : Tr.get? b h with
            | none => simp only [hg, reduceCtorEq] at H
            | some ob =>
              cases ob <;> simp only [hg, reduceCtorEq] at H
              rename_i l
              rw [dropK_eq] at H
              by_cases h6 : o1 ≤ l.length
              case neg => rw [if_neg h6] at H; cases H
              rw [if_pos h6, takeK_eq] at H
              by_cases h7 : n * s3 ≤ (l.drop o1).length
              case neg => rw [if_neg h7] at H; cases H
              rw [if_pos h7, Tr.setK_eq, apn] at H
              exact ⟨_, _, _, _, H, (memOk_appKill hop hs hx A hse hg h6 h7 hm hxe hnew h4).op, Moves.put_new h5 hg⟩
          | some c =>
            change (Bool.rec (motive := fun _ => Res) (slcK h b o1 n s3 fun old => apNew s3 n m old new e nx h k) (apIn s3 e nx h k wm b o1 n c m new) (Nat.ble (n + m) c)) = _ at H
            rw [brec_if, ble_if] at H
            by_cases h5 : n + m ≤ c
            · rw [if_pos h5] at H
              unfold apIn at H
              rw [wOk_eq] at H
              by_cases h6 : may wm b
              case neg => rw [if_neg h6] at H; cases H
              rw [if_pos h6, ownK_eq] at H
              cases hg : Tr.get? b h with
              | none => simp only [hg, reduceCtorEq] at H
              | some ob =>
                cases ob <;> simp only [hg, reduceCtorEq] at H
                rename_i l
                change sprK (o1 + n * s3) l new .fail (fun l => Tr.setK b h (some (.cells l)) fun h => forceN (n + m) fun n => k e (.sl b o1 n (some c) s3) nx h) = _ at H
                rw [sprK_eq] at H
                by_cases h7 : o1 + n * s3 + new.length ≤ l.length
                case neg => rw [if_neg h7] at H; cases H
                rw [if_pos h7, Tr.setK_eq, forceN_eq] at H
                exact ⟨_, _, _, _, H, (memOk_appIn hop hs hx A hse hg hm h5 h7 hxe hnew).op, Moves.put h6 hg⟩
            · rw [if_neg h5, slcK_eq] at H
              cases hold : slcV h b o1 n s3 with
              | none => simp only [hold, reduceCtorEq] at H
              | some old =>
                simp only [hold, apn] at H
                exact ⟨_, _, _, _, H, (memOk_appNew hop hs hx A (.inr ⟨_, _, _, hse, hold, by omega⟩) hxe hnew h4).op, Moves.new⟩

end
end Go.Proofs.Ythdlkpmhjbaplaa.Dx
