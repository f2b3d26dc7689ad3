/- How the relation is kept: a new block, a store, a block that is given up. No statement of this seat is proved here. -/
import Derived.Test.YthdlkpmhjbaplaaDxU
set_option autoImplicit false
noncomputable section
namespace Go.Proofs.Ythdlkpmhjbaplaa.Dx
open Go

theorem cell_heap {w w' : World} {b : Nat} (h : w'.heap[b]? = w.heap[b]?) (i : Nat) : w'.cell? ⟨b, i, none⟩ = w.cell? ⟨b, i, none⟩ := by unfold World.cell?; simp only [h]
theorem frozen_heap {w w' : World} {b : Nat} (h : w'.heap[b]? = w.heap[b]?) (i : Nat) : w'.frozen? ⟨b, i, none⟩ = w.frozen? ⟨b, i, none⟩ := by unfold World.frozen?; simp only [h]
theorem Lies.of_heap {w w' : World} {b s c : Nat} (h : Lies w b s c) (hs : w.heap.size ≤ w'.heap.size) (hb : w'.heap[b]? = w.heap[b]?) : Lies w' b s c :=
  ⟨by have := h.lt; omega, fun i hi => by rw [cell_heap hb]; exact h.cell i hi, fun i h1 h2 => by rw [frozen_heap hb]; exact h.free i h1 h2⟩
theorem HR.of_heap {j j' : J} {h h' : Hp} {w w' : World} {k : P} {i : Img} (hj : Ext j j') (hh : Tr.get? k h' = Tr.get? k h) (hs : w.heap.size ≤ w'.heap.size)
    (hb : ∀ b, (∃ s c, i = .at b s c) ∨ (∃ s, i = .ro b s) → w'.heap[b]? = w.heap[b]?) (H : HR j h w k i) : HR j' h' w' k i := by
  cases i with
  | dead => exact hh.trans H
  | «at» b s c =>
    obtain ⟨hl, l, hg, hle, hc⟩ := H
    have hb := hb b (.inl ⟨s, c, rfl⟩)
    exact ⟨hl.of_heap hs hb, l, hh.trans hg, hle, (hc.mono hj).of_heap hb⟩
  | ro b s =>
    obtain ⟨l, hg, hlt, hc⟩ := H
    have hb := hb b (.inr ⟨s, rfl⟩)
    exact ⟨l, hh.trans hg, by omega, (hc.mono hj).of_heap hb⟩
theorem ER.of_heap {j j' : J} {pv : P → Option Nat} {w w' : World} {tm : Array Value} {p : P} {v : DV} (hj : Ext j j') (hs : w.heap.size ≤ w'.heap.size) (hb : ∀ b, pv p = some b → w'.heap[b]? = w.heap[b]?) (H : ER j pv w tm p v) : ER j' pv w' tm p v := by
  cases v <;> try exact VR.mono hj H
  case var l =>
    obtain ⟨b, h1, h2, h3, h4⟩ := H
    exact ⟨b, h1, h2, h3.of_heap hs (hb b h1), (h4.mono hj).of_heap (hb b h1)⟩
  case fld q o => exact H

open Classical in
def J.put (j : J) (k : P) (i : Img) : J := fun q => if q = k then some i else j q
theorem J.put_self (j : J) (k : P) (i : Img) : j.put k i k = some i := if_pos rfl
theorem J.put_ne (j : J) {k q : P} (h : q ≠ k) (i : Img) : j.put k i q = j q := if_neg h
theorem Ext.put_new {j : J} {k : P} (h : j k = none) (i : Img) : Ext j (j.put k i) := fun q x hq => .inl (by rw [J.put_ne j (by intro e; rw [e, h] at hq; cases hq)]; exact hq)
theorem Ext.put_dead {j : J} {k : P} : Ext j (j.put k .dead) := fun q x hq => by
  by_cases h : q = k
  · subst h; exact .inr (J.put_self _ _ _)
  · exact .inl (by rw [J.put_ne j h]; exact hq)

section
variable {L : P → Prop} {N hi : Nat} {j : J} {pv : P → Option Nat} {e : Env} {nx : P} {h : Hp} {a : Act} {w : World}

theorem Rel.key_none (R : Rel L N hi j pv e nx h a w) (hn : nx.n < hi) : j nx = none := by
  cases hj : j nx with
  | none => rfl
  | some i => rcases R.fresh nx i hj with h | h <;> omega

/-- A NEW BLOCK. -/
theorem Rel.alloc (R : Rel L N hi j pv e nx h a w) (hn : nx.n < hi) {l : List DV} {cs : Array Value} {t : Nat} (hl : VRs j l (cs.toList.take l.length)) (hle : l.length ≤ cs.size) :
    Rel L N hi (j.put nx (.at w.heap.size 0 cs.size)) pv e nx.suc (Tr.set nx h (some (.cells l))) a (w.alloc (.cells cs t)) ∧
    Fr hi nx.n j pv w (j.put nx (.at w.heap.size 0 cs.size)) pv (w.alloc (.cells cs t)) := by
  have hnone := R.key_none hn
  have hext := Ext.put_new hnone (.at w.heap.size 0 cs.size)
  have hsz : (w.alloc (.cells cs t)).heap.size = w.heap.size + 1 := by show (w.heap.push _).size = _; simp
  have hold : ∀ x, x < w.heap.size → (w.alloc (.cells cs t)).heap[x]? = w.heap[x]? := fun x hx => by show (w.heap.push _)[x]? = _; simp [Array.getElem?_push, Nat.ne_of_lt hx]
  refine ⟨?_, ?_⟩
  · constructor
    · intro k i hk
      rw [P.n_suc]
      by_cases h1 : k = nx
      · subst h1; exact .inl (by omega)
      · rw [J.put_ne j h1] at hk
        rcases R.fresh k i hk with h | h
        · exact .inl (by omega)
        · exact .inr h
    · intro k i hk hlt
      by_cases h1 : k = nx
      · subst h1
        rw [J.put_self] at hk
        cases hk
        refine ⟨⟨by omega, fun i hi => ?_, fun i _ hi => ?_⟩, l, Tr.get_set_self _ _ _, by omega, ?_⟩
        · rw [World.cell?_alloc_new]; simp [hi]
        · simp
        · intro i v hv
          obtain ⟨v', hv', hr, h1⟩ := hl.get i v hv
          refine ⟨v', ?_, hr.mono hext, h1⟩
          rw [List.getElem?_take] at hv'
          have hi : i < l.length := (List.getElem?_eq_some_iff.1 hv).1
          rw [if_pos hi] at hv'
          rw [Nat.zero_add, World.cell?_alloc_new]
          simpa using hv'
      · rw [J.put_ne j h1] at hk
        have hlt' : k.n < nx.n := by
          rw [P.n_suc] at hlt
          have : k.n ≠ nx.n := fun h => h1 (P.n_inj h)
          omega
        refine HR.of_heap hext (Tr.get_set_ne h1 _ _) (by omega) ?_ (R.heap k i hk hlt')
        intro b hb
        rcases hb with ⟨s, c, rfl⟩ | ⟨s, rfl⟩
        · exact hold b (R.lt k b s c hk)
        · exact hold b (R.lr k b s hk)
    · intro k k' b s c s' c' hk hk'
      by_cases h1 : k = nx <;> by_cases h2 : k' = nx
      · rw [h1, h2]
      · subst h1; rw [J.put_self] at hk; rw [J.put_ne j h2] at hk'; cases hk; have := R.lt _ _ _ _ hk'; omega
      · subst h2; rw [J.put_self] at hk'; rw [J.put_ne j h1] at hk; cases hk'; have := R.lt _ _ _ _ hk; omega
      · rw [J.put_ne j h1] at hk; rw [J.put_ne j h2] at hk'; exact R.inj _ _ _ _ _ _ _ hk hk'
    · intro k k' b s c s' hk hk'
      by_cases h2 : k' = nx
      · subst h2; rw [J.put_self] at hk'; cases hk'
      · rw [J.put_ne j h2] at hk'
        by_cases h1 : k = nx
        · subst h1; rw [J.put_self] at hk; cases hk; have := R.lr _ _ _ hk'; omega
        · rw [J.put_ne j h1] at hk; exact R.inr _ _ _ _ _ _ hk hk'
    · intro p v hv
      refine ER.of_heap hext (by omega) ?_ (R.env p v hv)
      intro b hb
      obtain ⟨l, hl⟩ := R.pvv p b hb
      obtain ⟨b', hb', _, hlies, _⟩ := R.env p _ hl
      rw [hb] at hb'; cases hb'
      exact hold b hlies.lt
    · exact R.pvv
    · exact R.pin
    · intro p b hb k s c hk
      by_cases h1 : k = nx
      · subst h1; rw [J.put_self] at hk; cases hk
        obtain ⟨l, hl⟩ := R.pvv p _ hb
        obtain ⟨b', hb', _, hlies, _⟩ := R.env p _ hl
        rw [hb] at hb'; cases hb'
        have := hlies.lt; omega
      · rw [J.put_ne j h1] at hk; exact R.pfr p b hb k s c hk
    · intro p b hb k s hk
      by_cases h1 : k = nx
      · subst h1; rw [J.put_self] at hk; cases hk
      · rw [J.put_ne j h1] at hk; exact R.pfo p b hb k s hk
    · exact R.loc
    · exact R.size
    · intro k b s c hk
      by_cases h1 : k = nx
      · subst h1; rw [J.put_self] at hk; cases hk; omega
      · rw [J.put_ne j h1] at hk; have := R.lt k b s c hk; omega
    · intro k b s hk
      by_cases h1 : k = nx
      · subst h1; rw [J.put_self] at hk; cases hk
      · rw [J.put_ne j h1] at hk; have := R.lr k b s hk; omega
    · intro k hk
      rw [P.n_suc] at hk
      rw [Tr.get_set_ne (by rintro rfl; omega)]
      exact R.top k (by omega)
  · constructor
    · omega
    · rfl
    · rfl
    · intro x hx _ _; exact hold x hx
    · exact hext
    · intro k hk; exact J.put_ne j (by intro h; rw [h] at hk; omega) _
    · intro k hk hk'
      by_cases h1 : k = nx
      · rw [h1]; exact Nat.le_refl _
      · rw [J.put_ne j h1] at hk'; exact absurd hk hk'
    · intro k x s c hk hlt
      by_cases h1 : k = nx
      · subst h1; rw [J.put_self] at hk; cases hk; exact .inr (Nat.le_refl _)
      · rw [J.put_ne j h1] at hk; exact .inl ⟨k, s, c, hk, hlt⟩
    · intro k x s hk
      by_cases h1 : k = nx
      · subst h1; rw [J.put_self] at hk; cases hk
      · rw [J.put_ne j h1] at hk; exact hk
    · intro p x hx; exact .inl hx
    · intro ad; exact RowKit.frozen?_alloc_cells _ _ _ _
end

end Go.Proofs.Ythdlkpmhjbaplaa.Dx
