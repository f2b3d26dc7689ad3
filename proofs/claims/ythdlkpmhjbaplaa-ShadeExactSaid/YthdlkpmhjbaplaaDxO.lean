/- The small machine's instructions that touch no memory do what Go's do. No statement of this seat is proved here. -/
import Derived.Test.YthdlkpmhjbaplaaDxR
set_option autoImplicit false
noncomputable section
namespace Go.Proofs.Ythdlkpmhjbaplaa.Dx
open Go

/-! ### Constants, operands -/

def oneC : Value → Bool := fun v => v.oneCell'
mutual
def okCode : DV → Value → Bool
  | .unk, _ => true
  | .bool b, .bool b' => b == b'
  | .int k n, .int k' n' => sameK k k' && ieq n n'
  | .nilp, .pointer none => true
  | .nils, .slice none l c => Nat.beq l 0 && Nat.beq c 0
  | .nilf, .nilFunc => true
  | .nili, .nilIface => true
  | .nilm, .map none => true
  | .fn f [], .func (.func g) ⟨[]⟩ ⟨[]⟩ => Nat.beq f.n g
  | .agg l, .agg cs => okCs l cs.toList
  | _, _ => false
def okCs : List DV → List Value → Bool
  | [], [] => true
  | v :: l, v' :: l' => okCode v v' && v'.oneCell' && okCs l l'
  | _, _ => false
end
theorem okCs_step (j : J) {v : DV} {l : List DV} (hv : ∀ v', okCode v v' = true → VR j v v') (hl : ∀ l', okCs l l' = true → VRs j l l') : ∀ l', okCs (v :: l) l' = true → VRs j (v :: l) l' := by
  intro l' h
  cases l' with
  | nil => simp [okCs] at h
  | cons v' l' =>
    simp only [okCs, Bool.and_eq_true] at h
    exact .cons (hv v' h.1.1) h.1.2 (hl l' h.2)
theorem okCs_nil (j : J) : ∀ l', okCs [] l' = true → VRs j [] l' := by
  intro l' h
  cases l' with
  | nil => exact .nil
  | cons v' l' => simp [okCs] at h
theorem okC_sound (j : J) (v : DV) : ∀ v', okCode v v' = true → VR j v v' := by
  refine DV.rec (motive_1 := fun v => ∀ v', okCode v v' = true → VR j v v') (motive_2 := fun l => ∀ l', okCs l l' = true → VRs j l l') ?_ ?_ ?_ ?_ ?_ ?_ ?_ ?_ ?_ ?_ ?_ ?_ ?_ ?_ ?_ ?_ ?_ ?_ ?_ ?_ v
  case refine_1 => intro v' _; exact .unk _
  case refine_2 => intro b v' h; cases v' <;> simp [okCode] at h; subst h; exact .bool _
  case refine_3 =>
    intro k n v' h
    cases v' <;> simp only [okCode, Bool.and_eq_true, Bool.false_eq_true] at h
    rename_i k' n'
    obtain ⟨h1, h2⟩ := h
    rw [ieq_eq, decide_eq_true_eq] at h2
    rw [sameK_eq h1, h2]; exact .int _ _
  case refine_4 => intro n c v' h; cases v' <;> simp [okCode] at h
  case refine_5 => intro v' h; cases v' <;> try (simp [okCode] at h; done)
                   rename_i a; cases a <;> simp [okCode] at h; exact .nilp
  case refine_6 => intro k o v' h; cases v' <;> simp [okCode] at h
  case refine_7 => intro v' h; cases v' <;> try (simp [okCode] at h; done)
                   rename_i a l c; cases a <;> simp [okCode] at h; obtain ⟨rfl, rfl⟩ := h; exact .nils
  case refine_8 => intro k o n c sz v' h; cases v' <;> simp [okCode] at h
  case refine_9 =>
    intro f cs _ v' h
    cases cs with
    | cons _ _ => cases v' <;> simp [okCode] at h
    | nil =>
      cases v' <;> try (simp [okCode] at h; done)
      rename_i g a b
      cases g <;> try (simp [okCode] at h; done)
      rename_i g
      obtain ⟨a⟩ := a; obtain ⟨b⟩ := b
      cases a <;> cases b <;> simp [okCode] at h
      subst h
      exact VR.fn (cs := []) (cs' := []) .nil
  case refine_10 => intro v' h; cases v' <;> simp [okCode] at h; exact .nilf
  case refine_11 => intro t v _ v' h; cases v' <;> simp [okCode] at h
  case refine_12 => intro v' h; cases v' <;> simp [okCode] at h; exact .nili
  case refine_13 =>
    intro l ih v' h
    cases v' <;> try (simp [okCode] at h; done)
    rename_i cs
    exact VR.agg (l' := cs.toList) (ih cs.toList (by simpa [okCode] using h))
  case refine_14 => intro l _ v' h; cases v' <;> simp [okCode] at h
  case refine_15 => intro k v' h; cases v' <;> simp [okCode] at h
  case refine_16 => intro v' h; cases v' <;> try (simp [okCode] at h; done)
                    rename_i a; cases a <;> simp [okCode] at h; exact .nilm
  case refine_17 => intro l _ v' h; cases v' <;> simp [okCode] at h
  case refine_18 => intro p o v' h; cases v' <;> simp [okCode] at h
  case refine_19 => exact okCs_nil j
  case refine_20 => intro v l hv hl; exact okCs_step j hv hl
theorem okCs_sound (j : J) : ∀ (l : List DV) (l' : List Value), okCs l l' = true → VRs j l l'
  | [], l', h => okCs_nil j l' h
  | v :: l, l', h => okCs_step j (okC_sound j v) (okCs_sound j l) l' h

def chkOpd : Opd → Operand → Bool
  | .t p, .tmp t => Nat.beq p.n t
  | .c d, .const v => okCode d v
  | .c (.fn f []), .func g => Nat.beq f.n g
  | .c .unk, .global _ => true
  | _, _ => false
def chkOpds : List Opd → List Operand → Bool
  | [], [] => true
  | d :: l, x :: l' => chkOpd d x && chkOpds l l'
  | _, _ => false

theorem XD.of_VR {j : J} {pv : P → Option Nat} {v : DV} {v' : Value} (h : VR j v v') : XD j pv v v' := by
  cases v <;> first | exact h | (cases h)
/-- What is read off an operand. -/
def Reads (j : J) (pv : P → Option Nat) (e : Env) (ρ : Operand → Value) : Prop := ∀ d x, chkOpd d x = true → XD j pv (ev d e) (ρ x)

theorem reads_of {j : J} {pv : P → Option Nat} {e : Env} {a : Act} {w : World} (henv : ∀ p v, Tr.get? p e = some v → ER j pv w a.tmps p v) : Reads j pv e a.eval := by
  intro d x hc
  cases d with
  | t p =>
    cases x <;> simp only [chkOpd, Nat.beq_eq, Bool.false_eq_true] at hc
    subst hc
    show XD j pv (evT p e) (a.tmps.getD p.n undef)
    unfold evT
    cases hg : Tr.get? p e with
    | none => exact VR.unk _
    | some v =>
      have hr := henv p v hg
      show XD j pv (place v p) _
      rw [place_eq]
      cases v <;> try exact hr
      case var l =>
        obtain ⟨b, hb, ht, _⟩ := hr
        exact ⟨b, hb, ht⟩
  | c v =>
    cases x with
    | const v' => exact XD.of_VR (okC_sound j v v' (by simpa [chkOpd] using hc))
    | tmp t => simp [chkOpd] at hc
    | global g =>
      cases v <;> simp [chkOpd] at hc
      exact VR.unk _
    | func g =>
      cases v <;> simp [chkOpd] at hc
      rename_i f cs
      cases cs <;> simp [chkOpd] at hc
      subst hc
      exact VR.fn (cs := []) (cs' := []) .nil

theorem Rel.reads {L : P → Prop} {N hi : Nat} {j : J} {pv : P → Option Nat} {e : Env} {nx : P} {h : Hp} {a : Act} {w : World} (R : Rel L N hi j pv e nx h a w) : Reads j pv e a.eval := reads_of R.env

theorem XD.outer {j : J} {pv : P → Option Nat} {v : DV} {v' : Value} (h : XD j pv v v') : VR j (outer v ()) v' := by
  rw [outer_eq]
  cases v <;> first | exact h | exact VR.unk _
theorem Reads.ov {j : J} {pv : P → Option Nat} {e : Env} {ρ : Operand → Value} (h : Reads j pv e ρ) {d : Opd} {x : Operand} (hc : chkOpd d x = true) : VR j (ov d e) (ρ x) := (h d x hc).outer
theorem Reads.ovs {j : J} {pv : P → Option Nat} {e : Env} {ρ : Operand → Value} (h : Reads j pv e ρ) : ∀ (l : List Opd) (l' : List Operand), chkOpds l l' = true → VRt j (l.map fun o => Dx.ov o e) (l'.map ρ)
  | [], [], _ => .nil
  | d :: l, x :: l', hc => by
    simp only [chkOpds, Bool.and_eq_true] at hc
    exact .cons (h.ov hc.1) (h.ovs l l' hc.2)
  | [], _ :: _, hc => by simp [chkOpds] at hc
  | _ :: _, [], hc => by simp [chkOpds] at hc

/-! inversions -/
section
variable {j : J} {pv : P → Option Nat} {v' : Value}
theorem XD.bool {b : Bool} (h : XD j pv (.bool b) v') : v' = .bool b := by cases (h : VR j _ _); rfl
theorem XD.int {k : IntKind} {n : Int} (h : XD j pv (.int k n) v') : v' = .int k n := by cases (h : VR j _ _); rfl
theorem XD.agg {l : List DV} (h : XD j pv (.agg l) v') : ∃ l' : List Value, v' = .agg l'.toArray ∧ VRs j l l' := by cases (h : VR j _ _); exact ⟨_, rfl, ‹_›⟩
theorem XD.tup {l : List DV} (h : XD j pv (.tup l) v') : ∃ l' : List Value, v' = .tuple l'.toArray ∧ VRt j l l' := by cases (h : VR j _ _); exact ⟨_, rfl, ‹_›⟩
theorem XD.fn {f : P} {l : List DV} (h : XD j pv (.fn f l) v') : ∃ l' : List Value, v' = .func (.func f.n) #[] l'.toArray ∧ VRt j l l' := by cases (h : VR j _ _); exact ⟨_, rfl, ‹_›⟩
theorem XD.ptr {k : P} {o : Nat} (h : XD j pv (.ptr k o) v') : ∃ a, v' = .pointer (some a) := by cases (h : VR j _ _) <;> exact ⟨_, rfl⟩
theorem XD.sl {k : P} {o n : Nat} {cp : Option Nat} {sz : Nat} (h : XD j pv (.sl k o n cp sz) v') : ∃ a cap, v' = .slice (some a) n cap ∧ capR cp n cap := by
  cases (h : VR j _ _) <;> exact ⟨_, _, rfl, ‹_›⟩
theorem XD.nils (h : XD j pv .nils v') : v' = .slice none 0 0 := by cases (h : VR j _ _); rfl
end

end Go.Proofs.Ythdlkpmhjbaplaa.Dx
