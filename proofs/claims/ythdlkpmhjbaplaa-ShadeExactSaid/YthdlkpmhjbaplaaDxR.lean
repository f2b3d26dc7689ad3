/- What the small machine's values and memory say of Go's: the relation, and what keeps it. No statement of this seat is proved here. -/
import Derived.Test.YthdlkpmhjbaplaaDxD
import Derived.Deep.MidRow
import Derived.RowKit3
set_option autoImplicit false
namespace Go.Proofs.Ythdlkpmhjbaplaa.Dx
open Go

inductive Img where | dead | at (b s c : Nat) | ro (b s : Nat)
abbrev J := P → Option Img

def capR (cp : Option Nat) (n cap : Nat) : Prop := n ≤ cap ∧ ∀ c, cp = some c → cap = c
def offR (cp : Option Nat) (n s o off : Nat) : Prop := (0 < n ∨ ∃ c, cp = some c ∧ 0 < c) → off = s + o

mutual
inductive VR (j : J) : DV → Value → Prop
  | unk (v : Value) : VR j .unk v
  | bool (b : Bool) : VR j (.bool b) (.bool b)
  | int (k : IntKind) (n : Int) : VR j (.int k n) (.int k n)
  | nilp : VR j .nilp (.pointer none)
  | ptrA {k : P} {o b s c : Nat} (h : j k = some (.at b s c)) : VR j (.ptr k o) (.pointer (some ⟨b, s + o, none⟩))
  | ptrO {k : P} {o b s : Nat} (h : j k = some (.ro b s)) : VR j (.ptr k o) (.pointer (some ⟨b, s + o, none⟩))
  | ptrD {k : P} {o : Nat} (a : Addr) (h : j k = some .dead) : VR j (.ptr k o) (.pointer (some a))
  | nils : VR j .nils (.slice none 0 0)
  | slA {k : P} {o n : Nat} {cp : Option Nat} {sz b s c off cap : Nat} (h : j k = some (.at b s c)) (ho : offR cp n s o off) (hc : capR cp n cap) (hs : s ≤ off) (he : off + cap * sz ≤ c) :
      VR j (.sl k o n cp sz) (.slice (some ⟨b, off, none⟩) n cap)
  | slO {k : P} {o n : Nat} {cp : Option Nat} {sz b s off cap : Nat} (h : j k = some (.ro b s)) (ho : offR cp n s o off) (hc : capR cp n cap) :
      VR j (.sl k o n cp sz) (.slice (some ⟨b, off, none⟩) n cap)
  | slD {k : P} {o n : Nat} {cp : Option Nat} {sz cap : Nat} (a : Addr) (h : j k = some .dead) (hc : capR cp n cap) : VR j (.sl k o n cp sz) (.slice (some a) n cap)
  | slE {k : P} {o : Nat} {cp : Option Nat} {sz cap b s : Nat} (a : Addr) (h : j k = some (.ro b s)) (hc : capR cp 0 cap) (h0 : ∀ c, cp = some c → c = 0) : VR j (.sl k o 0 cp sz) (.slice (some a) 0 cap)
  | fn {f : P} {cs : List DV} {cs' : List Value} (h : VRt j cs cs') : VR j (.fn f cs) (.func (.func f.n) #[] cs'.toArray)
  | nilf : VR j .nilf .nilFunc
  | ifc {t : Nat} {v : DV} {v' : Value} (h : VR j v v') : VR j (.ifc t v) (.iface t v')
  | nili : VR j .nili .nilIface
  | agg {l : List DV} {l' : List Value} (h : VRs j l l') : VR j (.agg l) (.agg l'.toArray)
  | tup {l : List DV} {l' : List Value} (h : VRt j l l') : VR j (.tup l) (.tuple l'.toArray)
  | nilm : VR j .nilm (.map none)
/-- cells -/
inductive VRs (j : J) : List DV → List Value → Prop
  | nil : VRs j [] []
  | cons {v : DV} {v' : Value} {l : List DV} {l' : List Value} (h : VR j v v') (h1 : v'.oneCell' = true) (t : VRs j l l') : VRs j (v :: l) (v' :: l')
inductive VRt (j : J) : List DV → List Value → Prop
  | nil : VRt j [] []
  | cons {v : DV} {v' : Value} {l : List DV} {l' : List Value} (h : VR j v v') (t : VRt j l l') : VRt j (v :: l) (v' :: l')
end

/-- A later map of blocks: what stood stands, or is dead. -/
def Ext (j j' : J) : Prop := ∀ k i, j k = some i → j' k = some i ∨ j' k = some .dead

mutual
theorem VR.mono {j j' : J} (hj : Ext j j') : ∀ {v : DV} {v' : Value}, VR j v v' → VR j' v v'
  | _, _, .unk v => .unk v
  | _, _, .bool b => .bool b
  | _, _, .int k n => .int k n
  | _, _, .nilp => .nilp
  | _, _, .ptrA h => (hj _ _ h).elim .ptrA (.ptrD _)
  | _, _, .ptrO h => (hj _ _ h).elim .ptrO (.ptrD _)
  | _, _, .ptrD a h => (hj _ _ h).elim (.ptrD a) (.ptrD a)
  | _, _, .nils => .nils
  | _, _, .slA h ho hc hs he => (hj _ _ h).elim (fun h => .slA h ho hc hs he) (fun h => .slD _ h hc)
  | _, _, .slO h ho hc => (hj _ _ h).elim (fun h => .slO h ho hc) (fun h => .slD _ h hc)
  | _, _, .slD a h hc => (hj _ _ h).elim (fun h => .slD a h hc) (fun h => .slD a h hc)
  | _, _, .slE a h hc h0 => (hj _ _ h).elim (fun h => .slE a h hc h0) (fun h => .slD a h hc)
  | _, _, .fn h => .fn (VRt.mono hj h)
  | _, _, .nilf => .nilf
  | _, _, .ifc h => .ifc (VR.mono hj h)
  | _, _, .nili => .nili
  | _, _, .agg h => .agg (VRs.mono hj h)
  | _, _, .tup h => .tup (VRt.mono hj h)
  | _, _, .nilm => .nilm
theorem VRs.mono {j j' : J} (hj : Ext j j') : ∀ {l : List DV} {l' : List Value}, VRs j l l' → VRs j' l l'
  | _, _, .nil => .nil
  | _, _, .cons h h1 t => .cons (VR.mono hj h) h1 (VRs.mono hj t)
theorem VRt.mono {j j' : J} (hj : Ext j j') : ∀ {l : List DV} {l' : List Value}, VRt j l l' → VRt j' l l'
  | _, _, .nil => .nil
  | _, _, .cons h t => .cons (VR.mono hj h) (VRt.mono hj t)
end

theorem VRs.length {j : J} : ∀ {l : List DV} {l' : List Value}, VRs j l l' → l.length = l'.length
  | _, _, .nil => rfl
  | _, _, .cons _ _ t => by simp [VRs.length t]
theorem VRt.length {j : J} : ∀ {l : List DV} {l' : List Value}, VRt j l l' → l.length = l'.length
  | _, _, .nil => rfl
  | _, _, .cons _ t => by simp [VRt.length t]
theorem VRs.get {j : J} : ∀ {l : List DV} {l' : List Value}, VRs j l l' → ∀ (i : Nat) (v : DV), l[i]? = some v → ∃ v', l'[i]? = some v' ∧ VR j v v' ∧ v'.oneCell' = true
  | _, _, .nil, i, v, h => by simp at h
  | _, _, .cons hv h1 t, i, v, h => by
    cases i with
    | zero => simp at h; subst h; exact ⟨_, rfl, hv, h1⟩
    | succ i => simpa using VRs.get t i v (by simpa using h)
theorem VRt.get {j : J} : ∀ {l : List DV} {l' : List Value}, VRt j l l' → ∀ (i : Nat) (v : DV), l[i]? = some v → ∃ v', l'[i]? = some v' ∧ VR j v v'
  | _, _, .nil, i, v, h => by simp at h
  | _, _, .cons hv t, i, v, h => by
    cases i with
    | zero => simp at h; subst h; exact ⟨_, rfl, hv⟩
    | succ i => simpa using VRt.get t i v (by simpa using h)
theorem VRs.of_get {j : J} : ∀ {l : List DV} {l' : List Value}, l.length = l'.length → (∀ (i : Nat) (v : DV), l[i]? = some v → ∃ v', l'[i]? = some v' ∧ VR j v v' ∧ v'.oneCell' = true) → VRs j l l'
  | [], [], _, _ => .nil
  | [], _ :: _, h, _ => by simp at h
  | _ :: _, [], h, _ => by simp at h
  | v :: l, v' :: l', hl, h => by
    obtain ⟨w, hw, hr, h1⟩ := h 0 v rfl
    simp at hw; subst hw
    exact .cons hr h1 (VRs.of_get (by simpa using hl) fun i u hu => by simpa using h (i + 1) u (by simpa using hu))
theorem VRs.append {j : J} : ∀ {l : List DV} {l' : List Value} {m : List DV} {m' : List Value}, VRs j l l' → VRs j m m' → VRs j (l ++ m) (l' ++ m')
  | _, _, _, _, .nil, h => h
  | _, _, _, _, .cons hv h1 t, h => .cons hv h1 (VRs.append t h)
theorem VRt.append {j : J} : ∀ {l : List DV} {l' : List Value} {m : List DV} {m' : List Value}, VRt j l l' → VRt j m m' → VRt j (l ++ m) (l' ++ m')
  | _, _, _, _, .nil, h => h
  | _, _, _, _, .cons hv t, h => .cons hv (VRt.append t h)
theorem VRs.take {j : J} : ∀ {l : List DV} {l' : List Value} (n : Nat), VRs j l l' → VRs j (l.take n) (l'.take n)
  | _, _, 0, _ => by simpa using VRs.nil
  | _, _, n + 1, .nil => by simpa using VRs.nil
  | _, _, n + 1, .cons hv h1 t => by simpa using VRs.cons hv h1 (VRs.take n t)
theorem VRs.drop {j : J} : ∀ {l : List DV} {l' : List Value} (n : Nat), VRs j l l' → VRs j (l.drop n) (l'.drop n)
  | _, _, 0, h => by simpa using h
  | _, _, n + 1, .nil => by simpa using VRs.nil
  | _, _, n + 1, .cons _ _ t => by simpa using VRs.drop n t
theorem VRs.ones {j : J} : ∀ {l : List DV} {l' : List Value}, VRs j l l' → ∀ v ∈ l', v.oneCell' = true
  | _, _, .nil, v, h => by simp at h
  | _, _, .cons _ h1 t, v, h => by
    rcases List.mem_cons.1 h with rfl | h
    · exact h1
    · exact VRs.ones t v h
/-- The cells of a value that is known. -/
theorem VR.cells {j : J} {v : DV} {v' : Value} {l : List DV} (h : VR j v v') (hl : v.cells = some l) : VRs j l v'.cells.toList := by
  cases h <;> simp only [DV.cells, Option.some.injEq, reduceCtorEq] at hl <;> subst hl
  case agg l' h => exact h
  case fn cs cs' f h => exact .cons (.fn h) rfl .nil
  case ifc t v v' h => exact .cons (.ifc h) rfl .nil
  all_goals first
    | exact .cons (.bool _) rfl .nil
    | exact .cons (.int _ _) rfl .nil
    | exact .cons .nilp rfl .nil
    | exact .cons (.ptrA ‹_›) rfl .nil
    | exact .cons (.ptrO ‹_›) rfl .nil
    | exact .cons (.ptrD _ ‹_›) rfl .nil
    | exact .cons .nils rfl .nil
    | exact .cons (.slA ‹_› ‹_› ‹_› ‹_› ‹_›) rfl .nil
    | exact .cons (.slO ‹_› ‹_› ‹_›) rfl .nil
    | exact .cons (.slD _ ‹_› ‹_›) rfl .nil
    | exact .cons (.slE _ ‹_› ‹_› ‹_›) rfl .nil
    | exact .cons .nilf rfl .nil
    | exact .cons .nili rfl .nil
    | exact .cons .nilm rfl .nil

/-! ### A block -/

/-- The cells of block 'b' from 's' on read as 'l'. -/
def CellsAt (j : J) (w : World) (b s : Nat) (l : List DV) : Prop := ∀ i v, l[i]? = some v → ∃ v', w.cell? ⟨b, s + i, none⟩ = some v' ∧ VR j v v' ∧ v'.oneCell' = true

theorem CellsAt.mono {j j' : J} {w : World} {b s : Nat} {l : List DV} (hj : Ext j j') (h : CellsAt j w b s l) : CellsAt j' w b s l :=
  fun i v hv => let ⟨v', a, r, o⟩ := h i v hv; ⟨v', a, r.mono hj, o⟩
theorem CellsAt.of_heap {j : J} {w w' : World} {b s : Nat} {l : List DV} (h : CellsAt j w b s l) (hb : w'.heap[b]? = w.heap[b]?) : CellsAt j w' b s l :=
  fun i v hv => let ⟨v', a, r, o⟩ := h i v hv; ⟨v', by unfold World.cell? at a ⊢; rw [hb]; exact a, r, o⟩

/-- A block as it lies: at least so many cells, none of these frozen from 's' on. -/
structure Lies (w : World) (b s c : Nat) : Prop where
  lt : b < w.heap.size
  cell : ∀ i, i < c → (w.cell? ⟨b, i, none⟩).isSome = true
  free : ∀ i, s ≤ i → i < c → w.frozen? ⟨b, i, none⟩ = false

def HR (j : J) (h : Hp) (w : World) (k : P) : Img → Prop
  | .dead => Tr.get? k h = some .dead
  | .at b s c => Lies w b s c ∧ ∃ l, Tr.get? k h = some (.cells l) ∧ s + l.length ≤ c ∧ CellsAt j w b s l
  | .ro b s => ∃ l, Tr.get? k h = some (.ro l) ∧ b < w.heap.size ∧ CellsAt j w b s l

/-- What may stand in a temporary. -/
def XD (j : J) (pv : P → Option Nat) (v : DV) (v' : Value) : Prop :=
  match v with
  | .var _ => False
  | .fld q o => ∃ b, pv q = some b ∧ v' = .pointer (some ⟨b, o, none⟩)
  | v => VR j v v'

def ER (j : J) (pv : P → Option Nat) (w : World) (tm : Array Value) (p : P) (v : DV) : Prop :=
  match v with
  | .var l => ∃ b, pv p = some b ∧ tm.getD p.n undef = .pointer (some ⟨b, 0, none⟩) ∧ Lies w b 0 l.length ∧ CellsAt j w b 0 l
  | v => XD j pv v (tm.getD p.n undef)

structure Rel (L : P → Prop) (N hi : Nat) (j : J) (pv : P → Option Nat) (e : Env) (nx : P) (h : Hp) (a : Act) (w : World) : Prop where
  fresh : ∀ k i, j k = some i → k.n < nx.n ∨ hi ≤ k.n
  heap : ∀ k i, j k = some i → k.n < nx.n → HR j h w k i
  inj : ∀ k k' b s c s' c', j k = some (.at b s c) → j k' = some (.at b s' c') → k = k'
  inr : ∀ k k' b s c s', j k = some (.at b s c) → j k' = some (.ro b s') → False
  env : ∀ p v, Tr.get? p e = some v → ER j pv w a.tmps p v
  pvv : ∀ p b, pv p = some b → ∃ l, Tr.get? p e = some (.var l)
  pin : ∀ p q b, pv p = some b → pv q = some b → p = q
  pfr : ∀ p b, pv p = some b → ∀ k s c, j k ≠ some (.at b s c)
  pfo : ∀ p b, pv p = some b → ∀ k s, j k ≠ some (.ro b s)
  loc : ∀ p l, Tr.get? p e = some (.var l) → L p
  size : a.tmps.size = N
  lt : ∀ k b s c, j k = some (.at b s c) → b < w.heap.size
  lr : ∀ k b s, j k = some (.ro b s) → b < w.heap.size
  top : ∀ k, nx.n ≤ k.n → Tr.get? k h = none

/-- From one state on: blocks of keys from 'hi' on are others'; 'n': the next key at the beginning. -/
structure Fr (hi n : Nat) (j : J) (pv : P → Option Nat) (w : World) (j' : J) (pv' : P → Option Nat) (w' : World) : Prop where
  size : w.heap.size ≤ w'.heap.size
  os : w'.os = w.os
  output : w'.output = w.output
  same : ∀ x, x < w.heap.size → (∀ k s c, j k = some (.at x s c) → hi ≤ k.n) → (∀ p, pv p ≠ some x) → w'.heap[x]? = w.heap[x]?
  ext : Ext j j'
  old : ∀ k, hi ≤ k.n → j' k = j k
  more : ∀ k, j k = none → j' k ≠ none → n ≤ k.n
  new : ∀ k x s c, j' k = some (.at x s c) → k.n < hi → (∃ k0 s0 c0, j k0 = some (.at x s0 c0) ∧ k0.n < hi) ∨ w.heap.size ≤ x
  ro : ∀ k x s, j' k = some (.ro x s) → j k = some (.ro x s)
  pnew : ∀ p x, pv' p = some x → pv p = some x ∨ w.heap.size ≤ x
  froz : ∀ ad : Addr, w'.frozen? ad = w.frozen? ad

theorem Ext.refl (j : J) : Ext j j := fun _ _ h => .inl h
theorem Ext.trans {j j' j'' : J} (h : Ext j j') (h' : Ext j' j'') : Ext j j'' := fun k i hk => by
  rcases h k i hk with h1 | h1
  · exact h' k i h1
  · exact .inr ((h' k _ h1).elim id id)
theorem Fr.refl (hi n : Nat) (j : J) (pv : P → Option Nat) (w : World) : Fr hi n j pv w j pv w where
  size := Nat.le_refl _
  os := rfl
  output := rfl
  same := fun _ _ _ _ => rfl
  ext := Ext.refl j
  old := fun _ _ => rfl
  more := fun _ h h' => absurd h h'
  new := fun k _ s c h hk => .inl ⟨k, s, c, h, hk⟩
  ro := fun _ _ _ h => h
  pnew := fun _ _ h => .inl h
  froz := fun _ => rfl
theorem Fr.trans {hi n n' : Nat} {j j' j'' : J} {pv pv' pv'' : P → Option Nat} {w w' w'' : World} (h : Fr hi n j pv w j' pv' w') (h' : Fr hi n' j' pv' w' j'' pv'' w'') (hn : n ≤ n') :
    Fr hi n j pv w j'' pv'' w'' where
  size := Nat.le_trans h.size h'.size
  os := h'.os.trans h.os
  output := h'.output.trans h.output
  same := fun x hx hj hp => by
    rw [h'.same x (Nat.lt_of_lt_of_le hx h.size) ?_ ?_]
    · exact h.same x hx hj hp
    · intro k s c hk
      rcases Nat.lt_or_ge k.n hi with hlt | hge
      · rcases h.new k x s c hk hlt with ⟨k0, s0, c0, h0, hk0⟩ | h0
        · have := hj _ _ _ h0; omega
        · omega
      · exact hge
    · intro p hp'
      rcases h.pnew p x hp' with h0 | h0
      · exact hp _ h0
      · omega
  ext := h.ext.trans h'.ext
  old := fun k hk => (h'.old k hk).trans (h.old k hk)
  more := fun k hk hk' => by
    by_cases h0 : j' k = none
    · exact Nat.le_trans hn (h'.more k h0 hk')
    · exact h.more k hk h0
  new := fun k x s c hk hlt => by
    rcases h'.new k x s c hk hlt with ⟨k0, s0, c0, h0, hk0⟩ | h0
    · exact h.new k0 x s0 c0 h0 hk0
    · exact .inr (Nat.le_trans h.size h0)
  ro := fun k x s hk => h.ro k x s (h'.ro k x s hk)
  pnew := fun p x hp => by
    rcases h'.pnew p x hp with h0 | h0
    · exact h.pnew p x h0
    · exact .inr (Nat.le_trans h.size h0)
  froz := fun ad => (h'.froz ad).trans (h.froz ad)

end Go.Proofs.Ythdlkpmhjbaplaa.Dx
