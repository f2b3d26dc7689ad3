/- What holds in between, in a region whose order is left open. No statement of this seat is proved here. -/
import Derived.Test.YthdlkpmhjbaplaaDxAI
set_option autoImplicit false
set_option linter.unusedSimpArgs false
set_option linter.unusedVariables false
noncomputable section
namespace Go.Proofs.Ythdlkpmhjbaplaa.Dx
open Go

section
variable {Pr : Program} {wm : Option P} {ds : List Dop} {os : List Oper} {e : Env} {nx : P} {h : Hp} {E : Nat → Env} {X : Nat → P} {H : Nat → Hp} {Ls : List Nat} {N hi : Nat} {j0 : J} {pv0 : P → Option Nat} {a0 : Act} {w0 : World}

/-- Behind those of 'S'. -/
structure Inv (ds : List Dop) (E : Nat → Env) (X : Nat → P) (H : Nat → Hp) (Ls : List Nat) (N hi : Nat) (j0 : J) (pv0 : P → Option Nat) (a0 : Act) (w0 : World) (S : Nat → Prop) (j : J) (pv : P → Option Nat) (a : Act) (w : World) : Prop where
  fresh : ∀ k i, j k = some i → k.n < (X 0).n ∨ (∃ m, m < ds.length ∧ S m ∧ (X m).n ≤ k.n ∧ k.n < (X (m + 1)).n) ∨ hi ≤ k.n
  heap : ∀ k i t, j k = some i → k.n < (X ds.length).n → t ≤ ds.length → VT ds S t → k.n < (X t).n → HR j (H t) w k i
  inj : ∀ k k' b s c s' c', j k = some (.at b s c) → j k' = some (.at b s' c') → k = k'
  inr : ∀ k k' b s c s', j k = some (.at b s c) → j k' = some (.ro b s') → False
  env : ∀ p t v, t ≤ ds.length → VE ds S p t → Tr.get? p (E t) = some v → ER j pv w a.tmps p v
  pvv : ∀ p b t, t ≤ ds.length → VE ds S p t → pv p = some b → isVar p (E t)
  loc : ∀ p l t, t ≤ ds.length → VE ds S p t → Tr.get? p (E t) = some (.var l) → vars Ls p
  pin : ∀ p q b, pv p = some b → pv q = some b → p = q
  pfr : ∀ p b, pv p = some b → ∀ k s c, j k ≠ some (.at b s c)
  pfo : ∀ p b, pv p = some b → ∀ k s, j k ≠ some (.ro b s)
  plt : ∀ p b, pv p = some b → b < w.heap.size
  size : a.tmps.size = N
  lt : ∀ k b s c, j k = some (.at b s c) → b < w.heap.size
  lr : ∀ k b s, j k = some (.ro b s) → b < w.heap.size
  fr : Fr hi (X 0).n j0 pv0 w0 j pv w
  defers : a.defers = a0.defers

theorem Inv.start (st : Sts Pr wm ds os e nx h E X H) (hl : ds.length = os.length) (R : Rel (vars Ls) N hi j0 pv0 e nx h a0 w0) (hnh : (X ds.length).n ≤ hi) : Inv ds E X H Ls N hi j0 pv0 a0 w0 (fun _ => False) j0 pv0 a0 w0 where
  fresh := fun k i hk => by
    rw [st.x0]
    rcases R.fresh k i hk with h | h
    · exact .inl h
    · exact .inr (.inr h)
  heap := fun k i t hk hkn ht hv hkt => by
    have hk0 : k.n < (X 0).n := by
      rw [st.x0]
      rcases R.fresh k i hk with h | h
      · exact h
      · omega
    have h0 : HR j0 (H 0) w0 k i := by rw [st.h0]; exact R.heap k i hk (by rw [← st.x0]; exact hk0)
    exact HR.of_heap (Ext.refl _) (st.heap_same hl (Nat.zero_le _) ht (fun q d _ _ => ⟨fun h => absurd h (Nat.not_lt_zero _), fun h => h.elim⟩) hv hk0 hkt) (Nat.le_refl _) (fun _ _ => rfl) h0
  inj := R.inj
  inr := R.inr
  env := fun p t v ht hv hp => by
    rw [st.env_same hl (Nat.zero_le _) ht (fun q d _ _ => ⟨fun h => absurd h (Nat.not_lt_zero _), fun h => h.elim⟩) hv, st.e0] at hp
    exact R.env p v hp
  pvv := fun p b t ht hv hp => by
    obtain ⟨l, hl'⟩ := R.pvv p b hp
    refine ⟨l, ?_⟩
    rw [st.env_same hl (Nat.zero_le _) ht (fun q d _ _ => ⟨fun h => absurd h (Nat.not_lt_zero _), fun h => h.elim⟩) hv, st.e0]
    exact hl'
  loc := fun p l t ht hv hp => by
    rw [st.env_same hl (Nat.zero_le _) ht (fun q d _ _ => ⟨fun h => absurd h (Nat.not_lt_zero _), fun h => h.elim⟩) hv, st.e0] at hp
    exact R.loc p l hp
  pin := R.pin
  pfr := R.pfr
  pfo := R.pfo
  plt := fun p b hp => by
    obtain ⟨l, hl'⟩ := R.pvv p b hp
    obtain ⟨b', hb', _, hlies, _⟩ := R.env p _ hl'
    rw [hp] at hb'; cases hb'; exact hlies.lt
  size := R.size
  lt := R.lt
  lr := R.lr
  fr := by rw [st.x0]; exact Fr.refl _ _ _ _ _
  defers := rfl

theorem Inv.finish (st : Sts Pr wm ds os e nx h E X H) (hl : ds.length = os.length) (ht : ∀ k : P, nx.n ≤ k.n → Tr.get? k h = none) {S : Nat → Prop} {j : J} {pv : P → Option Nat} {a : Act} {w : World} (I : Inv ds E X H Ls N hi j0 pv0 a0 w0 S j pv a w) (hS : ∀ q, q < ds.length → S q) :
    Rel (vars Ls) N hi j pv (E ds.length) (X ds.length) (H ds.length) a w ∧ Fr hi nx.n j0 pv0 w0 j pv w ∧ a.defers = a0.defers := by
  have hlt : ∀ (q : Nat) (d : Dop), ds[q]? = some d → q < ds.length := fun q d hd => (List.getElem?_eq_some_iff.1 hd).1
  have hve : ∀ p, VE ds S p ds.length := fun p q d hd _ => ⟨fun _ => hS q (hlt q d hd), fun _ => hlt q d hd⟩
  have hvt : VT ds S ds.length := fun q d hd _ => ⟨fun _ => hS q (hlt q d hd), fun _ => hlt q d hd⟩
  refine ⟨?_, by rw [← st.x0]; exact I.fr, I.defers⟩
  constructor
  · intro k i hk
    rcases I.fresh k i hk with h | ⟨m, hm, _, _, h⟩ | h
    · exact .inl (Nat.lt_of_lt_of_le h (st.le hl (Nat.zero_le _) (Nat.le_refl _)))
    · exact .inl (Nat.lt_of_lt_of_le h (st.le hl (by omega) (Nat.le_refl _)))
    · exact .inr h
  · intro k i hk hkn
    exact I.heap k i _ hk hkn (Nat.le_refl _) hvt hkn
  · exact I.inj
  · exact I.inr
  · intro p v hv; exact I.env p _ v (Nat.le_refl _) (hve p) hv
  · intro p b hp; exact I.pvv p b _ (Nat.le_refl _) (hve p) hp
  · exact I.pin
  · exact I.pfr
  · exact I.pfo
  · intro p l hp; exact I.loc p l _ (Nat.le_refl _) (hve p) hp
  · exact I.size
  · exact I.lt
  · exact I.lr
  · exact st.top hl ht ds.length (Nat.le_refl _)

/-- One more is done. -/
def addS (S : Nat → Prop) (i : Nat) : Nat → Prop := fun q => S q ∨ q = i

theorem ER_not {j : J} {pv : P → Option Nat} {w : World} {tm : Array Value} {p : P} {v : DV} (hv : ∀ l, v ≠ .var l) : ER j pv w tm p v = XD j pv v (tm.getD p.n undef) := by
  cases v <;> first | rfl | exact absurd rfl (hv _)
theorem ER.pvmono {j : J} {pv pv' : P → Option Nat} {w : World} {tm : Array Value} {p : P} {v : DV} (hp : ∀ p b, pv p = some b → pv' p = some b) (H : ER j pv w tm p v) : ER j pv' w tm p v := by
  cases v
  case var l => obtain ⟨b, hb, r⟩ := H; exact ⟨b, hp _ _ hb, r⟩
  case fld q o => obtain ⟨b, hb, r⟩ := H; exact ⟨b, hp _ _ hb, r⟩
  all_goals exact H
theorem ER.tmps {j : J} {pv : P → Option Nat} {w : World} {tm tm' : Array Value} {p : P} {v : DV} (ht : tm'.getD p.n undef = tm.getD p.n undef) (H : ER j pv w tm p v) : ER j pv w tm' p v := by
  cases v
  case var l => obtain ⟨b, hb, h1, r⟩ := H; exact ⟨b, hb, by rw [ht]; exact h1, r⟩
  all_goals (rw [ER_not (by intro l h; cases h)] at H ⊢; rw [ht]; exact H)

theorem Inv.next (st : Sts Pr wm ds os e nx h E X H) (hl : ds.length = os.length) (hnh : (X ds.length).n ≤ hi) {S : Nat → Prop} {j : J} {pv : P → Option Nat} {a : Act} {w : World} (I : Inv ds E X H Ls N hi j0 pv0 a0 w0 S j pv a w)
    {i : Nat} {c : Bool} {u b : List P} {r : Bool} {op : Op} (hd : ds[i]? = some (.mk c u b r op)) (hn : ¬ S i)
    (side : ∀ (q : Nat) (x : Dop), ds[q]? = some x → clash x (.mk c u b r op) = true → (q < i ↔ S q))
    (hdb : ∀ p ∈ dstO op, p ∈ b) (hbu : ∀ p ∈ b, p ∈ u ∨ p ∈ dstO op)
    {r1 : Env} (hE : E (i + 1) = back r1 b (E i))
    {j' : J} {pv1 pv' : P → Option Nat} {a' : Act} {w' : World}
    (hjx : Ext j j') (hsize : w.heap.size ≤ w'.heap.size)
    (heap : ∀ k x t, j' k = some x → k.n < (X ds.length).n → t ≤ ds.length → VT ds (addS S i) t → k.n < (X t).n → HR j' (H t) w' k x)
    (fresh : ∀ k x, j' k = some x → j k = some x ∨ j k ≠ none ∨ ((X i).n ≤ k.n ∧ k.n < (X (i + 1)).n))
    (inj : ∀ k k' b s c s' c', j' k = some (.at b s c) → j' k' = some (.at b s' c') → k = k')
    (inr : ∀ k k' b s c s', j' k = some (.at b s c) → j' k' = some (.ro b s') → False)
    (lt : ∀ k b s c, j' k = some (.at b s c) → b < w'.heap.size)
    (lr : ∀ k b s, j' k = some (.ro b s) → b < w'.heap.size)
    (henv1 : ∀ p v, Tr.get? p r1 = some v → ER j' pv1 w' a'.tmps p v)
    (hpvv1 : ∀ p b, pv1 p = some b → isVar p r1)
    (hloc1 : ∀ p l, Tr.get? p r1 = some (.var l) → vars Ls p)
    (hpin1 : ∀ p q b, pv1 p = some b → pv1 q = some b → p = q)
    (hpfr : ∀ p b, pv' p = some b → ∀ k s c, j' k ≠ some (.at b s c))
    (hpfo : ∀ p b, pv' p = some b → ∀ k s, j' k ≠ some (.ro b s))
    (hp1 : ∀ p b, pv1 p = some b → pv' p = some b)
    (hp2 : ∀ p, p ∉ dstO op → pv' p = pv p)
    (hp3 : ∀ p ∈ dstO op, ∀ b, pv' p = some b → pv1 p = some b)
    (hp4 : ∀ p b, p ∈ u → p ∉ dstO op → pv p = some b → pv1 p = some b)
    (hp5 : ∀ p b, pv1 p = some b → pv p = some b ∨ w.heap.size ≤ b)
    (hp6 : ∀ p b, pv1 p = some b → b < w'.heap.size)
    (hp7 : ∀ p ∈ dstO op, pv p = none)
    (hr1 : ∀ p ∈ b, ∀ v, Tr.get? p (E i) = some v → Tr.get? p r1 = none → p ∉ dstO op ∧ ∀ l, v ≠ .var l)
    (htm : ∀ p, p ∉ dstO op → a'.tmps.getD p.n undef = a.tmps.getD p.n undef)
    (hblk : ∀ p x, pv p = some x → p ∉ b → w'.heap[x]? = w.heap[x]?)
    (size : a'.tmps.size = N) (hfr : Fr hi (X i).n j pv w j' pv' w') (hdf : a'.defers = a.defers) :
    Inv ds E X H Ls N hi j0 pv0 a0 w0 (addS S i) j' pv' a' w' := by
  have hil : i < ds.length := (List.getElem?_eq_some_iff.1 hd).1
  have hSi : ∀ q, q ≠ i → (addS S i q ↔ S q) := fun q hq => ⟨fun h => h.elim id (fun h => absurd h hq), .inl⟩
  -- where 'i' turns 'p', it stands last
  have ve1 : ∀ p, p ∈ b → VE ds (addS S i) p (i + 1) := by
    intro p hp q x hx hpx
    by_cases hq : q = i
    · subst hq; exact ⟨fun _ => .inr rfl, fun _ => by omega⟩
    · have := side q x hx (by unfold clash; rw [Bool.or_eq_true]; exact .inr (anyP_of hpx hp))
      rw [hSi q hq, ← this]; omega
  have ve0 : ∀ p, p ∈ b → VE ds S p i := by
    intro p hp q x hx hpx
    exact side q x hx (by unfold clash; rw [Bool.or_eq_true]; exact .inr (anyP_of hpx hp))
  have veo : ∀ p t, p ∉ b → VE ds (addS S i) p t → VE ds S p t := by
    intro p t hp hv q x hx hpx
    have hq : q ≠ i := by rintro rfl; rw [hd] at hx; cases hx; exact hp hpx
    rw [← hSi q hq]; exact hv q x hx hpx
  have bval : ∀ p t, p ∈ b → t ≤ ds.length → VE ds (addS S i) p t → Tr.get? p (E t) = (match Tr.get? p r1 with | some v => some v | none => Tr.get? p (E i)) := by
    intro p t hp ht hv
    rw [st.env_same hl (by omega) ht (ve1 p hp) hv, hE]
    cases hr : Tr.get? p r1 with
    | none => exact back_none r1 p hr b _
    | some v => exact back_in r1 p hr b _ hp
  have keepER : ∀ p v, p ∉ dstO op → (∀ l, v = .var l → p ∉ b) → ER j pv w a.tmps p v → ER j' pv' w' a'.tmps p v := by
    intro p v hp hv H
    refine ER.tmps (htm p hp) ?_
    cases v
    case var l =>
      have hpb := hv l rfl
      obtain ⟨bb, hb, h1, h2, h3⟩ := H
      have hh := hblk p bb hb hpb
      exact ⟨bb, by rw [hp2 p hp]; exact hb, h1, h2.of_heap hsize hh, (h3.mono hjx).of_heap hh⟩
    case fld q o =>
      obtain ⟨bb, hb, h1⟩ := H
      by_cases hq : q ∈ dstO op
      · rw [hp7 q hq] at hb; cases hb
      · exact ⟨bb, by rw [hp2 q hq]; exact hb, h1⟩
    all_goals exact VR.mono hjx H
  constructor
  · intro k x hk
    rcases fresh k x hk with h1 | h1 | ⟨h1, h2⟩
    · rcases I.fresh k x h1 with h2 | ⟨m, hm, hS, h2⟩ | h2
      · exact .inl h2
      · exact .inr (.inl ⟨m, hm, .inl hS, h2⟩)
      · exact .inr (.inr h2)
    · cases hj : j k with
      | none => exact absurd hj h1
      | some y =>
        rcases I.fresh k y hj with h2 | ⟨m, hm, hS, h2⟩ | h2
        · exact .inl h2
        · exact .inr (.inl ⟨m, hm, .inl hS, h2⟩)
        · exact .inr (.inr h2)
    · exact .inr (.inl ⟨i, hil, .inr rfl, h1, h2⟩)
  · exact heap
  · exact inj
  · exact inr
  · intro p t v ht hv hp
    by_cases hpb : p ∈ b
    · rw [bval p t hpb ht hv] at hp
      cases hr : Tr.get? p r1 with
      | some y =>
        rw [hr] at hp
        simp only [Option.some.injEq] at hp; subst hp
        exact ER.pvmono hp1 (henv1 p _ hr)
      | none =>
        rw [hr] at hp
        simp only [] at hp
        obtain ⟨h1, h2⟩ := hr1 p hpb v hp hr
        exact keepER p v h1 (fun l hl' => absurd hl' (h2 l)) (I.env p i v (by omega) (ve0 p hpb) hp)
    · exact keepER p v (fun h' => hpb (hdb p h')) (fun _ _ => hpb) (I.env p t v ht (veo p t hpb hv) hp)
  · intro p x t ht hv hp
    by_cases hpb : p ∈ b
    · have h1 : pv1 p = some x := by
        by_cases hpd : p ∈ dstO op
        · exact hp3 p hpd x hp
        · rcases hbu p hpb with hu | hu
          · exact hp4 p x hu hpd (by rw [← hp2 p hpd]; exact hp)
          · exact absurd hu hpd
      obtain ⟨l, hl1⟩ := hpvv1 p x h1
      refine ⟨l, ?_⟩
      rw [bval p t hpb ht hv, hl1]
    · exact I.pvv p x t ht (veo p t hpb hv) (by rw [← hp2 p (fun h' => hpb (hdb p h'))]; exact hp)
  · intro p l t ht hv hp
    by_cases hpb : p ∈ b
    · rw [bval p t hpb ht hv] at hp
      cases hr : Tr.get? p r1 with
      | some y =>
        rw [hr] at hp
        simp only [Option.some.injEq] at hp; subst hp
        exact hloc1 p l hr
      | none =>
        rw [hr] at hp
        exact I.loc p l i (by omega) (ve0 p hpb) hp
    · exact I.loc p l t ht (veo p t hpb hv) hp
  · intro p q x hp hq
    by_cases hpd : p ∈ dstO op <;> by_cases hqd : q ∈ dstO op
    · exact hpin1 p q x (hp3 p hpd x hp) (hp3 q hqd x hq)
    · have h1 := hp3 p hpd x hp
      rw [hp2 q hqd] at hq
      rcases hp5 p x h1 with h2 | h2
      · rw [hp7 p hpd] at h2; cases h2
      · have := I.plt q x hq; omega
    · have h1 := hp3 q hqd x hq
      rw [hp2 p hpd] at hp
      rcases hp5 q x h1 with h2 | h2
      · rw [hp7 q hqd] at h2; cases h2
      · have := I.plt p x hp; omega
    · rw [hp2 p hpd] at hp; rw [hp2 q hqd] at hq; exact I.pin p q x hp hq
  · exact hpfr
  · exact hpfo
  · intro p x hp
    by_cases hpd : p ∈ dstO op
    · exact hp6 p x (hp3 p hpd x hp)
    · rw [hp2 p hpd] at hp; exact Nat.lt_of_lt_of_le (I.plt p x hp) hsize
  · exact size
  · exact lt
  · exact lr
  · exact I.fr.trans hfr (st.le hl (Nat.zero_le _) (by omega))
  · rw [hdf]; exact I.defers
end
end Go.Proofs.Ythdlkpmhjbaplaa.Dx
