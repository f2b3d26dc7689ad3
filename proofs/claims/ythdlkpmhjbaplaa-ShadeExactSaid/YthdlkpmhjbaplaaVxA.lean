/- The value machine: values whose rows lie in them, and what the small machine's values and memory say of them. No statement of this seat is proved here. -/
import Derived.Test.YthdlkpmhjbaplaaDxD
set_option autoImplicit false
set_option linter.unusedVariables false
namespace Go.Proofs.Ythdlkpmhjbaplaa.Dx
open Go

/-! ### Values -/

/-- 'fz': a row that nobody writes any more, told by its cells; 'fp': an address in such cells; 'ow', 'pt': a row, an address, of a block of one's own; 'os': a part of such a row, from a cell on. -/
inductive VV where
  | unk | bool (b : Bool) | int (k : IntKind) (n : Int)
  | nilp | nils | nilf | nili | nilm
  | fz (n : Nat) (c : Option Nat) (sz : Nat) (l : List VV)
  | fp (l : List VV) (o : Nat)
  | ow (k n sz : Nat)
  | pt (k m o : Nat)
  | os (k m o n sz : Nat)
  | fn (f : P) (cs : List VV)
  | ifc (t : Nat) (v : VV)
  | agg (l : List VV) | tup (l : List VV)
  | var (l : List VV) | fld (p : P) (o : Nat)

/-- 'row': cells that hold no address of one's own. -/
inductive VOb where | row (l : List VV) | obj (l : List VV)
def VOb.cells : VOb → List VV | .row l => l | .obj l => l

abbrev VEnv := Tr VV
abbrev VHp := List (Nat × VOb)
abbrev MM := Nat × (Nat → Option (Nat × DV))

def hget : VHp → Nat → Option VOb
  | [], _ => none
  | (k, o) :: t, i => if i = k then some o else hget t i
def hset : VHp → Nat → VOb → VHp
  | [], _, _ => []
  | (k, o) :: t, i, x => if i = k then (k, x) :: t else (k, o) :: hset t i x
def hdel : VHp → Nat → VHp
  | [], _ => []
  | (k, o) :: t, i => if i = k then hdel t i else (k, o) :: hdel t i
def hdels (h : VHp) : List Nat → VHp
  | [] => h
  | k :: t => hdels (hdel h k) t

theorem hget_set_ne {h : VHp} {k i : Nat} {x : VOb} (hne : i ≠ k) : hget (hset h k x) i = hget h i := by
  induction h with
  | nil => rfl
  | cons a t ih =>
    obtain ⟨j, o⟩ := a
    simp only [hset]
    by_cases hj : k = j
    · subst hj; rw [if_pos rfl]; simp only [hget, if_neg hne]
    · rw [if_neg hj]; simp only [hget, ih]
theorem hget_set_self {h : VHp} {k : Nat} {x o : VOb} (hk : hget h k = some o) : hget (hset h k x) k = some x := by
  induction h with
  | nil => cases hk
  | cons a t ih =>
    obtain ⟨j, o'⟩ := a
    simp only [hget] at hk
    simp only [hset]
    by_cases hj : k = j
    · subst hj; rw [if_pos rfl]; simp only [hget, if_pos]
    · rw [if_neg hj] at hk ⊢; simp only [hget, if_neg hj]; exact ih hk
theorem hget_set_none {h : VHp} {k : Nat} {x : VOb} (hk : hget h k = none) : hset h k x = h := by
  induction h with
  | nil => rfl
  | cons a t ih =>
    obtain ⟨j, o'⟩ := a
    simp only [hget] at hk
    by_cases hj : k = j
    · rw [if_pos hj] at hk; cases hk
    · rw [if_neg hj] at hk; simp only [hset, if_neg hj, ih hk]
theorem hget_del {h : VHp} {k i : Nat} : hget (hdel h k) i = if i = k then none else hget h i := by
  induction h with
  | nil => simp [hdel, hget]
  | cons a t ih =>
    obtain ⟨j, o⟩ := a
    simp only [hdel]
    by_cases hj : k = j
    · subst hj; rw [if_pos rfl, ih]
      by_cases hi : i = k
      · rw [if_pos hi, if_pos hi]
      · rw [if_neg hi, if_neg hi]; simp only [hget, if_neg hi]
    · rw [if_neg hj]; simp only [hget, ih]
      by_cases hi : i = k
      · subst hi; rw [if_pos rfl, if_pos rfl]; rw [if_neg hj]
      · rw [if_neg hi, if_neg hi]
theorem hget_dels {ks : List Nat} : ∀ {h : VHp} {i : Nat}, hget (hdels h ks) i = (open Classical in if i ∈ ks then none else hget h i) := by
  induction ks with
  | nil => intro h i; simp [hdels]
  | cons k t ih =>
    intro h i
    simp only [hdels]
    rw [ih, hget_del]
    by_cases h1 : i ∈ t
    · rw [if_pos h1, if_pos (List.mem_cons_of_mem _ h1)]
    · rw [if_neg h1]
      by_cases h2 : i = k
      · subst h2; rw [if_pos rfl, if_pos (List.mem_cons_self)]
      · rw [if_neg h2, if_neg (by simp [h1, h2])]
theorem hget_append {h h' : VHp} {i : Nat} : hget (h ++ h') i = match hget h i with | some o => some o | none => hget h' i := by
  induction h with
  | nil => rfl
  | cons a t ih =>
    obtain ⟨j, o⟩ := a
    simp only [List.cons_append, hget]
    by_cases hi : i = j
    · rw [if_pos hi, if_pos hi]
    · rw [if_neg hi, if_neg hi, ih]

/-! ### Memory of the small machine -/

noncomputable def objAt (k : P) (h : Hp) : Option (List DV) := match Tr.get? k h with | some (.cells l) => some l | some (.ro l) => some l | _ => none
theorem objAt_of {k : P} {h h' : Hp} (e : Tr.get? k h' = Tr.get? k h) : objAt k h' = objAt k h := by unfold objAt; rw [e]
def refAt : DV → Option (P × Nat)
  | .ptr k o => some (k, o)
  | .sl k o _ _ _ => some (k, o)
  | _ => none
def plain : DV → Prop | .var _ => False | .fld _ _ => False | _ => True
def slV (d : DV) : Prop := d = .nils ∨ ∃ k o n c s, d = .sl k o n c s
def ptV (d : DV) : Prop := ∃ k o, d = .ptr k o

/-! ### The relation of values -/

mutual
inductive XR (Z : P → Prop) (h : Hp) : Option MM → VV → DV → Prop
  | unk {M : Option MM} {d : DV} (hd : plain d) : XR Z h M .unk d
  | bool {M : Option MM} (b : Bool) : XR Z h M (.bool b) (.bool b)
  | int {M : Option MM} (k : IntKind) (n : Int) : XR Z h M (.int k n) (.int k n)
  | nilp {M : Option MM} : XR Z h M .nilp .nilp
  | nils {M : Option MM} : XR Z h M .nils .nils
  | nilf {M : Option MM} : XR Z h M .nilf .nilf
  | nili {M : Option MM} : XR Z h M .nili .nili
  | nilm {M : Option MM} : XR Z h M .nilm .nilm
  | fz0 {M : Option MM} {c : Option Nat} {sz : Nat} (hc : c = none ∨ c = some 0) : XR Z h M (.fz 0 c sz []) .nils
  | fz {M : Option MM} {n : Nat} {c : Option Nat} {sz : Nat} {l : List VV} {k : P} {o : Nat} {c' : Option Nat} {cells : List DV} (hn : l.length = n * sz) (hz : Z k) (hk : objAt k h = some cells)
      (ho : o + n * sz ≤ cells.length) (hl : XRs Z h none l ((cells.drop o).take (n * sz))) (hc : ∀ x, c = some x → c' = some x) (hn' : ∀ x, c' = some x → n ≤ x) : XR Z h M (.fz n c sz l) (.sl k o n c' sz)
  | fp {M : Option MM} {l : List VV} {k : P} {o i : Nat} {cells : List DV} (hz : Z k) (hk : objAt k h = some cells) (ho : o + l.length ≤ cells.length)
      (hl : XRs Z h none l ((cells.drop o).take l.length)) : XR Z h M (.fp l i) (.ptr k (o + i))
  | ow {N : Nat} {f : Nat → Option (Nat × DV)} {k n sz : Nat} {d : DV} (hd : slV d) (hk : k < N)
      (hf : ∀ m r, f k = some (m, r) → n * sz ≤ m ∧ (m = n * sz → d = r ∧ ((r = .nils ∧ n = 0) ∨ ∃ b o c, r = .sl b o n c sz))) : XR Z h (some (N, f)) (.ow k n sz) d
  | pt {N : Nat} {f : Nat → Option (Nat × DV)} {k m o : Nat} {d : DV} (hd : ptV d) (hk : k < N)
      (hf : ∀ m' r, f k = some (m', r) → m ≤ m' ∧ (m' = m → ∃ b o', refAt r = some (b, o') ∧ d = .ptr b (o' + o))) : XR Z h (some (N, f)) (.pt k m o) d
  | os {N : Nat} {f : Nat → Option (Nat × DV)} {k m o n sz : Nat} {d : DV} (hd : slV d) (hk : k < N)
      (hf : ∀ m' r, f k = some (m', r) → m ≤ m' ∧ (m' = m → (r = .nils ∧ d = .nils ∧ n = 0) ∨ ∃ b o' c, refAt r = some (b, o') ∧ d = .sl b (o' + o) n c sz)) : XR Z h (some (N, f)) (.os k m o n sz) d
  | fn {M : Option MM} {f : P} {cs : List VV} {cs' : List DV} (hl : XRs Z h M cs cs') : XR Z h M (.fn f cs) (.fn f cs')
  | ifc {M : Option MM} {t : Nat} {v : VV} {d : DV} (hv : XR Z h M v d) : XR Z h M (.ifc t v) (.ifc t d)
  | agg {M : Option MM} {l : List VV} {l' : List DV} (hl : XRs Z h M l l') : XR Z h M (.agg l) (.agg l')
  | tup {M : Option MM} {l : List VV} {l' : List DV} (hl : XRs Z h M l l') : XR Z h M (.tup l) (.tup l')
  | var {M : Option MM} {l : List VV} {l' : List DV} (hl : XRs Z h M l l') : XR Z h M (.var l) (.var l')
  | fld {M : Option MM} (p : P) (o : Nat) : XR Z h M (.fld p o) (.fld p o)
inductive XRs (Z : P → Prop) (h : Hp) : Option MM → List VV → List DV → Prop
  | nil {M : Option MM} : XRs Z h M [] []
  | cons {M : Option MM} {v : VV} {d : DV} {l : List VV} {l' : List DV} (hv : XR Z h M v d) (hl : XRs Z h M l l') : XRs Z h M (v :: l) (d :: l')
end

/-- What was known of the blocks of one's own stays known, or is forgotten. -/
def MLe : Option MM → Option MM → Prop
  | none, _ => True
  | some _, none => False
  | some (N, f), some (N', f') => N ≤ N' ∧ ∀ k, k < N → ∀ m' r', f' k = some (m', r') → ∃ m r, f k = some (m, r) ∧ m ≤ m' ∧ (m = m' → r' = r)

theorem MLe.refl : ∀ M : Option MM, MLe M M
  | none => trivial
  | some (N, f) => ⟨Nat.le_refl _, fun k _ m r h => ⟨m, r, h, Nat.le_refl _, fun _ => rfl⟩⟩
theorem MLe.trans : ∀ {M M' M'' : Option MM}, MLe M M' → MLe M' M'' → MLe M M''
  | none, _, _, _, _ => trivial
  | some _, none, _, h, _ => h.elim
  | some _, some _, none, _, h => h.elim
  | some (N, f), some (N', f'), some (N'', f''), ⟨h1, h2⟩, ⟨h3, h4⟩ => ⟨Nat.le_trans h1 h3, fun k hk m r h => by
      obtain ⟨m1, r1, e1, l1, q1⟩ := h4 k (Nat.lt_of_lt_of_le hk h1) m r h
      obtain ⟨m2, r2, e2, l2, q2⟩ := h2 k hk m1 r1 e1
      refine ⟨m2, r2, e2, Nat.le_trans l2 l1, fun e => ?_⟩
      have : m1 = m := by omega
      rw [q1 this, q2 (by omega)]⟩

section
variable {Z Z' : P → Prop} {h h' : Hp}

mutual
theorem XR.mono (hZ : ∀ k, Z k → Z' k) (hh : ∀ k, Z k → objAt k h' = objAt k h) : ∀ {M M' : Option MM} {v : VV} {d : DV}, MLe M M' → XR Z h M v d → XR Z' h' M' v d
  | _, _, _, _, _, .unk hd => .unk hd
  | _, _, _, _, _, .bool b => .bool b
  | _, _, _, _, _, .int k n => .int k n
  | _, _, _, _, _, .nilp => .nilp
  | _, _, _, _, _, .nils => .nils
  | _, _, _, _, _, .nilf => .nilf
  | _, _, _, _, _, .nili => .nili
  | _, _, _, _, _, .nilm => .nilm
  | _, _, _, _, _, .fz0 hc => .fz0 hc
  | _, _, _, _, _, .fz hn hz hk ho hl hc hx => .fz hn (hZ _ hz) ((hh _ hz).trans hk) ho (XRs.mono hZ hh (M := none) (M' := none) trivial hl) hc hx
  | _, _, _, _, _, .fp hz hk ho hl => .fp (hZ _ hz) ((hh _ hz).trans hk) ho (XRs.mono hZ hh (M := none) (M' := none) trivial hl)
  | _, none, _, _, hM, .ow hd hk hf => hM.elim
  | _, some (N', f'), _, _, hM, .ow hd hk hf => .ow hd (Nat.lt_of_lt_of_le hk hM.1) fun m' r' e => by
      obtain ⟨m, r, e1, l1, q1⟩ := hM.2 _ hk m' r' e
      obtain ⟨a1, a2⟩ := hf m r e1
      refine ⟨Nat.le_trans a1 l1, fun e2 => ?_⟩
      have e3 : m = m' := by omega
      rw [q1 e3]; exact a2 (by omega)
  | _, none, _, _, hM, .pt hd hk hf => hM.elim
  | _, some (N', f'), _, _, hM, .pt hd hk hf => .pt hd (Nat.lt_of_lt_of_le hk hM.1) fun m' r' e => by
      obtain ⟨m, r, e1, l1, q1⟩ := hM.2 _ hk m' r' e
      obtain ⟨a1, a2⟩ := hf m r e1
      refine ⟨Nat.le_trans a1 l1, fun e2 => ?_⟩
      have e3 : m = m' := by omega
      rw [q1 e3]; exact a2 (by omega)
  | _, none, _, _, hM, .os hd hk hf => hM.elim
  | _, some (N', f'), _, _, hM, .os hd hk hf => .os hd (Nat.lt_of_lt_of_le hk hM.1) fun m' r' e => by
      obtain ⟨m, r, e1, l1, q1⟩ := hM.2 _ hk m' r' e
      obtain ⟨a1, a2⟩ := hf m r e1
      refine ⟨Nat.le_trans a1 l1, fun e2 => ?_⟩
      have e3 : m = m' := by omega
      rw [q1 e3]; exact a2 (by omega)
  | _, _, _, _, hM, .fn hl => .fn (XRs.mono hZ hh hM hl)
  | _, _, _, _, hM, .ifc hv => .ifc (XR.mono hZ hh hM hv)
  | _, _, _, _, hM, .agg hl => .agg (XRs.mono hZ hh hM hl)
  | _, _, _, _, hM, .tup hl => .tup (XRs.mono hZ hh hM hl)
  | _, _, _, _, hM, .var hl => .var (XRs.mono hZ hh hM hl)
  | _, _, _, _, _, .fld p o => .fld p o
theorem XRs.mono (hZ : ∀ k, Z k → Z' k) (hh : ∀ k, Z k → objAt k h' = objAt k h) : ∀ {M M' : Option MM} {l : List VV} {l' : List DV}, MLe M M' → XRs Z h M l l' → XRs Z' h' M' l l'
  | _, _, _, _, _, .nil => .nil
  | _, _, _, _, hM, .cons hv hl => .cons (XR.mono hZ hh hM hv) (XRs.mono hZ hh hM hl)
end
end

section
variable {Z : P → Prop} {h : Hp} {M : Option MM}

theorem XRs.length : ∀ {l : List VV} {l' : List DV}, XRs Z h M l l' → l.length = l'.length
  | _, _, .nil => rfl
  | _, _, .cons _ t => by simp [XRs.length t]
theorem XRs.get : ∀ {l : List VV} {l' : List DV}, XRs Z h M l l' → ∀ (i : Nat) (v : VV), l[i]? = some v → ∃ d, l'[i]? = some d ∧ XR Z h M v d
  | _, _, .nil, i, v, e => by simp at e
  | _, _, .cons hv t, i, v, e => by
    cases i with
    | zero => simp at e; subst e; exact ⟨_, rfl, hv⟩
    | succ i => simpa using XRs.get t i v (by simpa using e)
theorem XRs.append : ∀ {l : List VV} {l' : List DV} {m : List VV} {m' : List DV}, XRs Z h M l l' → XRs Z h M m m' → XRs Z h M (l ++ m) (l' ++ m')
  | _, _, _, _, .nil, t => t
  | _, _, _, _, .cons hv t, t' => .cons hv (XRs.append t t')
theorem XRs.take : ∀ {l : List VV} {l' : List DV} (n : Nat), XRs Z h M l l' → XRs Z h M (l.take n) (l'.take n)
  | _, _, 0, _ => by simpa using XRs.nil
  | _, _, n + 1, .nil => by simpa using XRs.nil
  | _, _, n + 1, .cons hv t => by simpa using XRs.cons hv (XRs.take n t)
theorem XRs.drop : ∀ {l : List VV} {l' : List DV} (n : Nat), XRs Z h M l l' → XRs Z h M (l.drop n) (l'.drop n)
  | _, _, 0, t => by simpa using t
  | _, _, n + 1, .nil => by simpa using XRs.nil
  | _, _, n + 1, .cons _ t => by simpa using XRs.drop n t
theorem XRs.reps {l : List VV} {l' : List DV} (t : XRs Z h M l l') : ∀ n : Nat, XRs Z h M ((List.replicate n l).flatten) ((List.replicate n l').flatten)
  | 0 => .nil
  | n + 1 => by simpa [List.replicate_succ] using XRs.append t (XRs.reps t n)

theorem XR.plain {v : VV} {d : DV} (x : XR Z h M v d) (h1 : ∀ l, v ≠ .var l) (h2 : ∀ p o, v ≠ .fld p o) : Dx.plain d := by
  cases x
  case ow hk hd hf => rcases hd with rfl | ⟨k, o, n, c, s, rfl⟩ <;> trivial
  case pt hk hd hf => obtain ⟨k, o, rfl⟩ := hd; trivial
  case os hk hd hf => rcases hd with rfl | ⟨k, o, n, c, s, rfl⟩ <;> trivial
  all_goals first | trivial | assumption | exact absurd rfl (h1 _) | exact absurd rfl (h2 _ _)
theorem XR.none_any {v : VV} {d : DV} (x : XR Z h none v d) : XR Z h M v d := XR.mono (M := none) (fun _ h => h) (fun _ _ => rfl) trivial x
theorem XRs.none_any {l : List VV} {l' : List DV} (x : XRs Z h none l l') : XRs Z h M l l' := XRs.mono (M := none) (fun _ h => h) (fun _ _ => rfl) trivial x
end

/-! ### What holds no address of one's own -/

mutual
def pureV : VV → Bool
  | .ow _ _ _ => false
  | .pt _ _ _ => false
  | .os _ _ _ _ _ => false
  | .var _ => false
  | .fld _ _ => false
  | .fn _ cs => pureL cs
  | .ifc _ v => pureV v
  | .agg l => pureL l
  | .tup l => pureL l
  | _ => true
def pureL : List VV → Bool
  | [] => true
  | v :: l => pureV v && pureL l
end
/-- What hangs on no memory. -/
def scal1 : VV → Bool
  | .unk => true | .bool _ => true | .int _ _ => true | .nilp => true | .nils => true | .nilf => true | .nili => true | .nilm => true
  | _ => false
def scalL : List VV → Bool
  | [] => true
  | v :: l => scal1 v && scalL l
def scal : VV → Bool
  | .tup l => scalL l
  | v => scal1 v

section
variable {Z Z' : P → Prop} {h h' : Hp} {M M' : Option MM}
mutual
theorem XR.pure : ∀ {M : Option MM} {v : VV} {d : DV}, XR Z h M v d → pureV v = true → XR Z h none v d
  | _, _, _, .unk hd, _ => .unk hd
  | _, _, _, .bool b, _ => .bool b
  | _, _, _, .int k n, _ => .int k n
  | _, _, _, .nilp, _ => .nilp
  | _, _, _, .nils, _ => .nils
  | _, _, _, .nilf, _ => .nilf
  | _, _, _, .nili, _ => .nili
  | _, _, _, .nilm, _ => .nilm
  | _, _, _, .fz0 hc, _ => .fz0 hc
  | _, _, _, .fz hn hz hk ho hl hc hx, _ => .fz hn hz hk ho hl hc hx
  | _, _, _, .fp hz hk ho hl, _ => .fp hz hk ho hl
  | _, _, _, .ow hd hk hf, hp => by simp [pureV] at hp
  | _, _, _, .pt hd hk hf, hp => by simp [pureV] at hp
  | _, _, _, .os hd hk hf, hp => by simp [pureV] at hp
  | _, _, _, .fn hl, hp => .fn (XRs.pure hl (by simpa [pureV] using hp))
  | _, _, _, .ifc hv, hp => .ifc (XR.pure hv (by simpa [pureV] using hp))
  | _, _, _, .agg hl, hp => .agg (XRs.pure hl (by simpa [pureV] using hp))
  | _, _, _, .tup hl, hp => .tup (XRs.pure hl (by simpa [pureV] using hp))
  | _, _, _, .var hl, hp => by simp [pureV] at hp
  | _, _, _, .fld p o, hp => by simp [pureV] at hp
theorem XRs.pure : ∀ {M : Option MM} {l : List VV} {l' : List DV}, XRs Z h M l l' → pureL l = true → XRs Z h none l l'
  | _, _, _, .nil, _ => .nil
  | _, _, _, .cons hv hl, hp => by
    simp only [pureL, Bool.and_eq_true] at hp
    exact .cons (XR.pure hv hp.1) (XRs.pure hl hp.2)
end
theorem XR.scal1 {v : VV} {d : DV} (x : XR Z h M v d) (hs : scal1 v = true) : XR Z' h' M' v d := by
  cases x <;> first | exact .unk ‹_› | exact .bool _ | exact .int _ _ | exact .nilp | exact .nils | exact .nilf | exact .nili | exact .nilm | exact absurd hs (by simp [Dx.scal1])
theorem XRs.scal : ∀ {l : List VV} {l' : List DV}, XRs Z h M l l' → scalL l = true → XRs Z' h' M' l l'
  | _, _, .nil, _ => .nil
  | _, _, .cons hv hl, hs => by
    simp only [scalL, Bool.and_eq_true] at hs
    exact .cons (XR.scal1 hv hs.1) (XRs.scal hl hs.2)
theorem XR.scal {v : VV} {d : DV} (x : XR Z h M v d) (hs : scal v = true) : XR Z' h' M' v d := by
  cases v <;> first | exact XR.scal1 x hs | skip
  case tup l => cases x with | tup hl => exact .tup (XRs.scal hl hs)
end

/-! ### States -/

structure VSt where
  e : VEnv
  nx : Nat
  w : Nat
  h : VHp

/-- Where a call began, and what it may write. -/
structure Ctx where
  wm : Option P
  wm0 : Option P
  n0 : P
  h0 : Hp
  Z0 : P → Prop
  own0 : P → Prop

structure DS where
  e : Env
  nx : P
  h : Hp

structure Gh where
  Z : P → Prop
  μ : Nat → Option DV

def mof (h : VHp) (μ : Nat → Option DV) (k : Nat) : Option (Nat × DV) :=
  match hget h k, μ k with
  | some o, some r => some (o.cells.length, r)
  | _, _ => none
abbrev mm (nx : Nat) (h : VHp) (g : Gh) : Option MM := some (nx, mof h g.μ)

def VOb.m (o : VOb) (M : Option MM) : Option MM := match o with | .row _ => none | .obj _ => M

/-- How a block of one's own lies. -/
def Blk (Z : P → Prop) (h : Hp) (M : Option MM) (o : VOb) (r : DV) : Prop :=
  (r = .nils ∧ o = .row []) ∨
  (∃ b q n cp sz cells, r = .sl b q n cp sz ∧ Tr.get? b h = some (.cells cells) ∧ o.cells.length = n * sz ∧ q + n * sz ≤ cells.length ∧ (∀ c, cp = some c → n ≤ c ∧ q + c * sz ≤ cells.length) ∧
    XRs Z h (o.m M) o.cells ((cells.drop q).take o.cells.length)) ∨
  (∃ b q cells, r = .ptr b q ∧ Tr.get? b h = some (.cells cells) ∧ q + o.cells.length ≤ cells.length ∧ XRs Z h (o.m M) o.cells ((cells.drop q).take o.cells.length))

structure HpR (c : Ctx) (nx w : Nat) (h : VHp) (dnx : P) (dh : Hp) (g : Gh) : Prop where
  blk : ∀ k o, hget h k = some o → k < nx ∧ ∃ r, g.μ k = some r ∧ Blk g.Z dh (mm nx h g) o r
  own : ∀ k o r b q, hget h k = some o → g.μ k = some r → refAt r = some (b, q) → ¬ g.Z b ∧ (c.n0.n ≤ b.n ∨ c.own0 b) ∧ (w ≤ k → ∀ m, c.wm = some m → m.n ≤ b.n)
  inj : ∀ k k' o o' r r' b q q', hget h k = some o → hget h k' = some o' → g.μ k = some r → g.μ k' = some r' → refAt r = some (b, q) → refAt r' = some (b, q') → k = k'
  zlt : ∀ b, g.Z b → b.n < dnx.n
  zold : ∀ b, g.Z b → c.Z0 b ∨ c.n0.n ≤ b.n ∨ c.own0 b
  top : ∀ b : P, dnx.n ≤ b.n → Tr.get? b dh = none
  keep : ∀ b : P, b.n < c.n0.n → ¬ c.own0 b → Tr.get? b dh = Tr.get? b c.h0
  le : c.n0.n ≤ dnx.n
  wm : ∀ m, c.wm = some m → m.n ≤ dnx.n
  wf : ∀ m, c.wm0 = some m → m.n ≤ c.n0.n ∧ ∀ b, c.own0 b → m.n ≤ b.n

def EnvR (Z : P → Prop) (h : Hp) (M : Option MM) (e : VEnv) (d : Env) : Prop :=
  ∀ p, match Tr.get? p e, Tr.get? p d with
    | none, none => True
    | some v, some x => XR Z h M v x
    | _, _ => False

structure RS (c : Ctx) (s : VSt) (d : DS) (g : Gh) : Prop where
  env : EnvR g.Z d.h (mm s.nx s.h g) s.e d.e
  hp : HpR c s.nx s.w s.h d.nx d.h g

structure Evo (nx : Nat) (h : VHp) (dnx : P) (dh : Hp) (g : Gh) (nx' : Nat) (h' : VHp) (dnx' : P) (dh' : Hp) (g' : Gh) : Prop where
  m : MLe (mm nx h g) (mm nx' h' g')
  z : ∀ b, g.Z b → g'.Z b
  o : ∀ b, g.Z b → objAt b dh' = objAt b dh
  nx : dnx.n ≤ dnx'.n

theorem Evo.refl (nx : Nat) (h : VHp) (dnx : P) (dh : Hp) (g : Gh) : Evo nx h dnx dh g nx h dnx dh g := ⟨MLe.refl _, fun _ h => h, fun _ _ => rfl, Nat.le_refl _⟩
theorem Evo.trans {n1 n2 n3 : Nat} {h1 h2 h3 : VHp} {x1 x2 x3 : P} {e1 e2 e3 : Hp} {g1 g2 g3 : Gh} (a : Evo n1 h1 x1 e1 g1 n2 h2 x2 e2 g2) (b : Evo n2 h2 x2 e2 g2 n3 h3 x3 e3 g3) : Evo n1 h1 x1 e1 g1 n3 h3 x3 e3 g3 :=
  ⟨a.m.trans b.m, fun k h => b.z k (a.z k h), fun k h => (b.o k (a.z k h)).trans (a.o k h), Nat.le_trans a.nx b.nx⟩
theorem Evo.xr {n1 n2 : Nat} {h1 h2 : VHp} {x1 x2 : P} {e1 e2 : Hp} {g1 g2 : Gh} (a : Evo n1 h1 x1 e1 g1 n2 h2 x2 e2 g2) {v : VV} {d : DV} (x : XR g1.Z e1 (mm n1 h1 g1) v d) : XR g2.Z e2 (mm n2 h2 g2) v d :=
  XR.mono a.z a.o a.m x
theorem Evo.xrs {n1 n2 : Nat} {h1 h2 : VHp} {x1 x2 : P} {e1 e2 : Hp} {g1 g2 : Gh} (a : Evo n1 h1 x1 e1 g1 n2 h2 x2 e2 g2) {v : List VV} {d : List DV} (x : XRs g1.Z e1 (mm n1 h1 g1) v d) : XRs g2.Z e2 (mm n2 h2 g2) v d :=
  XRs.mono a.z a.o a.m x
theorem Evo.env {n1 n2 : Nat} {h1 h2 : VHp} {x1 x2 : P} {e1 e2 : Hp} {g1 g2 : Gh} (a : Evo n1 h1 x1 e1 g1 n2 h2 x2 e2 g2) {e : VEnv} {d : Env} (x : EnvR g1.Z e1 (mm n1 h1 g1) e d) : EnvR g2.Z e2 (mm n2 h2 g2) e d := by
  intro p
  have := x p
  cases h1 : Tr.get? p e <;> cases h2 : Tr.get? p d <;> simp only [h1, h2] at this ⊢
  exact a.xr this

theorem EnvR.get {Z : P → Prop} {h : Hp} {M : Option MM} {e : VEnv} {d : Env} (x : EnvR Z h M e d) {p : P} {v : VV} (hp : Tr.get? p e = some v) : ∃ y, Tr.get? p d = some y ∧ XR Z h M v y := by
  have := x p
  rw [hp] at this
  cases h2 : Tr.get? p d with
  | none => rw [h2] at this; exact this.elim
  | some y => rw [h2] at this; exact ⟨y, rfl, this⟩
theorem EnvR.get_none {Z : P → Prop} {h : Hp} {M : Option MM} {e : VEnv} {d : Env} (x : EnvR Z h M e d) {p : P} (hp : Tr.get? p e = none) : Tr.get? p d = none := by
  have := x p
  rw [hp] at this
  cases h2 : Tr.get? p d with
  | none => rfl
  | some y => rw [h2] at this; exact this.elim
theorem EnvR.set {Z : P → Prop} {h : Hp} {M : Option MM} {e : VEnv} {d : Env} (x : EnvR Z h M e d) {p : P} {v : VV} {y : DV} (hv : XR Z h M v y) : EnvR Z h M (Tr.set p e (some v)) (Tr.set p d (some y)) := by
  intro q
  rw [Tr.get_set, Tr.get_set]
  by_cases hq : q = p
  · rw [if_pos hq, if_pos hq]; exact hv
  · rw [if_neg hq, if_neg hq]; exact x q
theorem EnvR.nl {Z : P → Prop} {h : Hp} {M : Option MM} : EnvR Z h M .nl .nl := by
  intro p; rw [Tr.get_e, Tr.get_e]; trivial

end Go.Proofs.Ythdlkpmhjbaplaa.Dx
