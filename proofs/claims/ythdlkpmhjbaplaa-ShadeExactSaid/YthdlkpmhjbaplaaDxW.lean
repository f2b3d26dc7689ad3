/- How the relation is kept: a store, a block that is given up, a variable of the frame. No statement of this seat is proved here. -/
import Derived.Test.YthdlkpmhjbaplaaDxV
set_option autoImplicit false
noncomputable section
namespace Go.Proofs.Ythdlkpmhjbaplaa.Dx
open Go

theorem setCell_size (w : World) (a : Addr) (v : Value) : (w.setCell a v).heap.size = w.heap.size := by unfold World.setCell; simp
theorem setCell_other (w : World) (a : Addr) (v : Value) {x : Nat} (h : x ≠ a.block) : (w.setCell a v).heap[x]? = w.heap[x]? := by unfold World.setCell; simp [Array.getElem?_modify, Ne.symm h]
theorem setCells_size (b : Nat) : ∀ (vs : List Value) (o : Nat) (w : World), (w.setCells b o vs).heap.size = w.heap.size
  | [], _, _ => rfl
  | v :: r, o, w => by rw [World.setCells, setCells_size b r, setCell_size]
theorem setCells_other (b : Nat) : ∀ (vs : List Value) (o : Nat) (w : World) {x : Nat}, x ≠ b → (w.setCells b o vs).heap[x]? = w.heap[x]?
  | [], _, _, _, _ => rfl
  | v :: r, o, w, x, h => by rw [World.setCells, setCells_other b r _ _ h, setCell_other _ _ _ h]
theorem setCells_os (b : Nat) : ∀ (vs : List Value) (o : Nat) (w : World), (w.setCells b o vs).os = w.os ∧ (w.setCells b o vs).output = w.output
  | [], _, _ => ⟨rfl, rfl⟩
  | v :: r, o, w => by rw [World.setCells]; exact setCells_os b r _ _
theorem setCells_some (b : Nat) : ∀ (vs : List Value) (o : Nat) (w : World) (x : Addr), ((w.setCells b o vs).cell? x).isSome = (w.cell? x).isSome
  | [], _, _, _ => rfl
  | v :: r, o, w, x => by
    rw [World.setCells, setCells_some b r]
    by_cases h : (⟨b, o, none⟩ : Addr) = x
    · subst h
      cases hc : w.cell? ⟨b, o, none⟩ with
      | some u => rw [World.cell?_setCell_same _ _ _ hc]; rfl
      | none =>
        cases h2 : (w.setCell ⟨b, o, none⟩ v).cell? ⟨b, o, none⟩ with
        | none => rfl
        | some u =>
          exfalso
          unfold World.cell? at hc h2
          unfold World.setCell at h2
          simp only [Array.getElem?_modify] at h2
          cases hb : w.heap[b]? with
          | none => simp [hb] at h2
          | some ob => cases ob <;> simp_all
    · rw [World.cell?_setCell_other _ _ _ _ h]
theorem Lies.setCells {w : World} {b s c : Nat} (h : Lies w b s c) (b' o : Nat) (vs : List Value) : Lies (w.setCells b' o vs) b s c :=
  ⟨by rw [setCells_size]; exact h.lt, fun i hi => by rw [setCells_some]; exact h.cell i hi, fun i h1 h2 => by rw [World.frozen?_setCells]; exact h.free i h1 h2⟩

/-- The cells behind a store. -/
theorem CellsAt.store {j : J} {w : World} {b s : Nat} {l cl : List DV} {vs : List Value} {o : Nat} (h : CellsAt j w b s l) (hv : VRs j cl vs) (ho : o + cl.length ≤ l.length)
    (hc : ∀ i, i < l.length → (w.cell? ⟨b, s + i, none⟩).isSome = true) : CellsAt j (w.setCells b (s + o) vs) b s (l.take o ++ cl ++ l.drop (o + cl.length)) := by
  intro i v hi
  have hlen := hv.length
  by_cases h1 : i < o
  · rw [List.getElem?_append_left (by simp; omega), List.getElem?_append_left (by simp; omega), List.getElem?_take, if_pos h1] at hi
    obtain ⟨v', a, r⟩ := h i v hi
    exact ⟨v', by rw [World.cell?_setCells_out]; exact a; intro _ _; left; show s + i < s + o; omega, r⟩
  · by_cases h2 : i < o + cl.length
    · rw [List.getElem?_append_left (by simp; omega), List.getElem?_append_right (by simp; omega)] at hi
      simp only [List.length_take, show min o l.length = o by omega] at hi
      obtain ⟨v', a, r⟩ := hv.get _ v hi
      have hlt : i - o < vs.length := (List.getElem?_eq_some_iff.1 a).1
      refine ⟨v', ?_, r⟩
      have := World.cell?_setCells_in b vs (s + o) w (fun q hq => by rw [show s + o + q = s + (o + q) by omega]; exact hc _ (by omega)) (i - o) hlt
      rw [show s + i = s + o + (i - o) by omega, this, ← a, List.getElem?_eq_getElem hlt]
    · rw [List.getElem?_append_right (by simp; omega)] at hi
      simp only [List.length_append, List.length_take, show min o l.length = o by omega, List.getElem?_drop] at hi
      rw [show o + cl.length + (i - (o + cl.length)) = i by omega] at hi
      obtain ⟨v', a, r⟩ := h i v hi
      exact ⟨v', by rw [World.cell?_setCells_out]; exact a; intro _ _; right; show s + o + vs.length ≤ s + i; omega, r⟩

section
variable {L : P → Prop} {N hi : Nat} {j : J} {pv : P → Option Nat} {e : Env} {nx : P} {h : Hp} {a : Act} {w : World}

/-- What a change in one mapped block leaves. -/
theorem Rel.at_store (R : Rel L N hi j pv e nx h a w) (hnh : nx.n ≤ hi) {k : P} {b s c : Nat} (hk : j k = some (.at b s c)) (hlt : k.n < nx.n) {l cl : List DV} {vs : List Value} {o : Nat}
    (hg : Tr.get? k h = some (.cells l)) (hv : VRs j cl vs) (ho : o + cl.length ≤ l.length) :
    Rel L N hi j pv e nx (Tr.set k h (some (.cells (l.take o ++ cl ++ l.drop (o + cl.length))))) a (w.setCells b (s + o) vs) ∧ Fr hi nx.n j pv w j pv (w.setCells b (s + o) vs) := by
  have H : HR j h w k (.at b s c) := R.heap k _ hk hlt
  obtain ⟨hlies, l', hg', hle, hcells⟩ := H
  rw [hg] at hg'; cases hg'
  have hne : ∀ x, x ≠ b → (w.setCells b (s + o) vs).heap[x]? = w.heap[x]? := fun x hx => setCells_other b vs _ w hx
  have hsz := setCells_size b vs (s + o) w
  refine ⟨?_, ?_⟩
  · constructor
    · exact R.fresh
    · intro k' i hk' hlt'
      by_cases h1 : k' = k
      · subst h1
        rw [hk] at hk'; cases hk'
        refine ⟨hlies.setCells _ _ _, _, Tr.get_set_self _ _ _, ?_, hcells.store hv ho ?_⟩
        · simp; omega
        · intro i hi'; exact hlies.cell _ (by omega)
      · refine HR.of_heap (Ext.refl j) (Tr.get_set_ne h1 _ _) (by omega) ?_ (R.heap k' i hk' hlt')
        intro x hx
        refine hne x ?_
        rintro rfl
        rcases hx with ⟨s', c', rfl⟩ | ⟨s', rfl⟩
        · exact h1 (R.inj _ _ _ _ _ _ _ hk' hk)
        · exact R.inr _ _ _ _ _ _ hk hk'
    · exact R.inj
    · exact R.inr
    · intro p v hpv
      refine ER.of_heap (Ext.refl j) (by omega) ?_ (R.env p v hpv)
      intro x hx
      exact hne x (by rintro rfl; exact R.pfr p _ hx _ _ _ hk)
    · exact R.pvv
    · exact R.pin
    · exact R.pfr
    · exact R.pfo
    · exact R.loc
    · exact R.size
    · intro k' b' s' c' hk'; rw [hsz]; exact R.lt _ _ _ _ hk'
    · intro k' b' s' hk'; rw [hsz]; exact R.lr _ _ _ hk'
    · intro k' hk'; rw [Tr.get_set_ne (by rintro rfl; omega)]; exact R.top k' hk'
  · constructor
    · omega
    · exact (setCells_os b vs _ w).1
    · exact (setCells_os b vs _ w).2
    · intro x hx hj hp
      refine hne x ?_
      rintro rfl
      have := hj _ _ _ hk; omega
    · exact Ext.refl j
    · intro k' _; rfl
    · intro k' h1 h2; exact absurd h1 h2
    · intro k' x s' c' hk' hlt'; exact .inl ⟨k', s', c', hk', hlt'⟩
    · intro _ _ _ h; exact h
    · intro p x hx; exact .inl hx
    · intro ad; exact World.frozen?_setCells _ _ _ _ _

/-- A store into a variable of the frame. -/
theorem Rel.var_store (R : Rel L N hi j pv e nx h a w) {p : P} {b : Nat} (hp : pv p = some b) {l cl : List DV} {vs : List Value} {o : Nat}
    (hg : Tr.get? p e = some (.var l)) (hv : VRs j cl vs) (ho : o + cl.length ≤ l.length) :
    Rel L N hi j pv (Tr.set p e (some (.var (l.take o ++ cl ++ l.drop (o + cl.length))))) nx h a (w.setCells b o vs) ∧ Fr hi nx.n j pv w j pv (w.setCells b o vs) := by
  obtain ⟨b', hb', htm, hlies, hcells⟩ := R.env p _ hg
  rw [hp] at hb'; cases hb'
  have hne : ∀ x, x ≠ b → (w.setCells b o vs).heap[x]? = w.heap[x]? := fun x hx => setCells_other b vs _ w hx
  have hsz := setCells_size b vs o w
  refine ⟨?_, ?_⟩
  · constructor
    · exact R.fresh
    · intro k' i hk' hlt'
      refine HR.of_heap (Ext.refl j) rfl (by omega) ?_ (R.heap k' i hk' hlt')
      intro x hx
      refine hne x ?_
      rintro rfl
      rcases hx with ⟨s', c', rfl⟩ | ⟨s', rfl⟩
      · exact R.pfr p _ hp _ _ _ hk'
      · exact R.pfo p _ hp _ _ hk'
    · exact R.inj
    · exact R.inr
    · intro q v hq
      by_cases h1 : q = p
      · subst h1
        rw [Tr.get_set_self] at hq; cases hq
        refine ⟨b, hp, htm, ?_, ?_⟩
        · have := hlies.setCells b o vs
          have hlen : (l.take o ++ cl ++ l.drop (o + cl.length)).length = l.length := by simp; omega
          rw [hlen]; exact this
        · have := hcells.store (s := 0) hv ho (fun i hi' => by rw [Nat.zero_add]; exact hlies.cell i hi')
          rwa [Nat.zero_add] at this
      · rw [Tr.get_set_ne h1] at hq
        refine ER.of_heap (Ext.refl j) (by omega) ?_ (R.env q v hq)
        intro x hx
        exact hne x (by rintro rfl; exact h1 (R.pin _ _ _ hx hp))
    · intro q x hx
      by_cases h1 : q = p
      · subst h1; exact ⟨_, Tr.get_set_self _ _ _⟩
      · rw [Tr.get_set_ne h1]; exact R.pvv q x hx
    · exact R.pin
    · exact R.pfr
    · exact R.pfo
    · intro q m hq
      by_cases h1 : q = p
      · subst h1; exact R.loc _ _ hg
      · rw [Tr.get_set_ne h1] at hq; exact R.loc _ _ hq
    · exact R.size
    · intro k' b' s' c' hk'; rw [hsz]; exact R.lt _ _ _ _ hk'
    · intro k' b' s' hk'; rw [hsz]; exact R.lr _ _ _ hk'
    · exact R.top
  · constructor
    · omega
    · exact (setCells_os b vs _ w).1
    · exact (setCells_os b vs _ w).2
    · intro x hx hj hpn
      refine hne x ?_
      rintro rfl
      exact hpn p hp
    · exact Ext.refl j
    · intro k' _; rfl
    · intro k' h1 h2; exact absurd h1 h2
    · intro k' x s' c' hk' hlt'; exact .inl ⟨k', s', c', hk', hlt'⟩
    · intro _ _ _ h; exact h
    · intro p x hx; exact .inl hx
    · intro ad; exact World.frozen?_setCells _ _ _ _ _

/-- A block is given up. -/
theorem Rel.kill (R : Rel L N hi j pv e nx h a w) (hnh : nx.n ≤ hi) {k : P} (hlt : k.n < nx.n) (hns : j k ≠ none) (hro : ∀ b s, j k ≠ some (.ro b s)) :
    Rel L N hi (j.put k .dead) pv e nx (Tr.set k h (some .dead)) a w ∧ Fr hi nx.n j pv w (j.put k .dead) pv w := by
  refine ⟨?_, ?_⟩
  · constructor
    · intro k' i hk'
      by_cases h1 : k' = k
      · subst h1; exact .inl hlt
      · rw [J.put_ne j h1] at hk'; exact R.fresh _ _ hk'
    · intro k' i hk' hlt'
      by_cases h1 : k' = k
      · subst h1; rw [J.put_self] at hk'; cases hk'; exact Tr.get_set_self _ _ _
      · rw [J.put_ne j h1] at hk'
        exact HR.of_heap Ext.put_dead (Tr.get_set_ne h1 _ _) (Nat.le_refl _) (fun _ _ => rfl) (R.heap k' i hk' hlt')
    · intro k1 k2 b s c s' c' h1 h2
      by_cases e1 : k1 = k
      · subst e1; rw [J.put_self] at h1; cases h1
      · by_cases e2 : k2 = k
        · subst e2; rw [J.put_self] at h2; cases h2
        · rw [J.put_ne j e1] at h1; rw [J.put_ne j e2] at h2; exact R.inj _ _ _ _ _ _ _ h1 h2
    · intro k1 k2 b s c s' h1 h2
      by_cases e1 : k1 = k
      · subst e1; rw [J.put_self] at h1; cases h1
      · by_cases e2 : k2 = k
        · subst e2; rw [J.put_self] at h2; cases h2
        · rw [J.put_ne j e1] at h1; rw [J.put_ne j e2] at h2; exact R.inr _ _ _ _ _ _ h1 h2
    · intro p v hv; exact ER.of_heap Ext.put_dead (Nat.le_refl _) (fun _ _ => rfl) (R.env p v hv)
    · exact R.pvv
    · exact R.pin
    · intro p b hb k' s c hk'
      by_cases h1 : k' = k
      · subst h1; rw [J.put_self] at hk'; cases hk'
      · rw [J.put_ne j h1] at hk'; exact R.pfr p b hb _ _ _ hk'
    · intro p b hb k' s hk'
      by_cases h1 : k' = k
      · subst h1; rw [J.put_self] at hk'; cases hk'
      · rw [J.put_ne j h1] at hk'; exact R.pfo p b hb _ _ hk'
    · exact R.loc
    · exact R.size
    · intro k' b s c hk'
      by_cases h1 : k' = k
      · subst h1; rw [J.put_self] at hk'; cases hk'
      · rw [J.put_ne j h1] at hk'; exact R.lt _ _ _ _ hk'
    · intro k' b s hk'
      by_cases h1 : k' = k
      · subst h1; rw [J.put_self] at hk'; cases hk'
      · rw [J.put_ne j h1] at hk'; exact R.lr _ _ _ hk'
    · intro k' hk'; rw [Tr.get_set_ne (by rintro rfl; omega)]; exact R.top k' hk'
  · constructor
    · exact Nat.le_refl _
    · rfl
    · rfl
    · intro _ _ _ _; rfl
    · exact Ext.put_dead
    · intro k' hk'; exact J.put_ne j (by rintro rfl; omega) _
    · intro k' h1 h2
      by_cases e1 : k' = k
      · subst e1; exact absurd h1 hns
      · rw [J.put_ne j e1] at h2; exact absurd h1 h2
    · intro k' x s c hk' hl
      by_cases e1 : k' = k
      · subst e1; rw [J.put_self] at hk'; cases hk'
      · rw [J.put_ne j e1] at hk'; exact .inl ⟨k', s, c, hk', hl⟩
    · intro k' x s hk'
      by_cases e1 : k' = k
      · subst e1; rw [J.put_self] at hk'; cases hk'
      · rw [J.put_ne j e1] at hk'; exact hk'
    · intro p x hx; exact .inl hx
    · intro ad; rfl


theorem put_getD (a : Act) (d : Nat) (v : Value) (x : Nat) : (a.put (some d) v).tmps.getD x undef = if d = x ∧ x < a.tmps.size then v else a.tmps.getD x undef := by
  show (a.tmps.setIfInBounds d v).getD x undef = _
  simp only [Array.getD_eq_getD_getElem?, Array.getElem?_setIfInBounds]
  by_cases h : d = x
  · subst h
    by_cases h2 : d < a.tmps.size
    · simp [h2]
    · simp [h2]
  · simp [h]
theorem XD.tmps {pv : P → Option Nat} {v : DV} {v' : Value} (h : XD j pv v v') {w : World} {tm : Array Value} {p : P} (ht : tm.getD p.n undef = v') : ER j pv w tm p v := by
  cases v <;> first | exact h.elim | (simp only [ER]; rw [ht]; exact h)

/-- A temporary is written. -/
theorem Rel.put (R : Rel L N hi j pv e nx h a w) {d : P} (hd : ¬ L d) (hN : d.n < N) {v : DV} {v' : Value} (hv : XD j pv v v') :
    Rel L N hi j pv (Tr.set d e (some v)) nx h (a.put (some d.n) v') w := by
  have hnv : ∀ l, Tr.get? d e ≠ some (.var l) := fun l hl => hd (R.loc d l hl)
  have hpd : pv d = none := by
    cases hp : pv d with
    | none => rfl
    | some b => obtain ⟨l, hl⟩ := R.pvv d b hp; exact absurd hl (hnv l)
  constructor
  · exact R.fresh
  · exact R.heap
  · exact R.inj
  · exact R.inr
  · intro p u hu
    by_cases h1 : p = d
    · subst h1
      rw [Tr.get_set_self] at hu; cases hu
      exact hv.tmps (by rw [put_getD, if_pos ⟨rfl, by rw [R.size]; exact hN⟩])
    · rw [Tr.get_set_ne h1] at hu
      have hr := R.env p u hu
      have ht : (a.put (some d.n) v').tmps.getD p.n undef = a.tmps.getD p.n undef := by rw [put_getD, if_neg (fun h => h1 (P.n_inj h.1.symm))]
      cases u <;> (simp only [ER] at hr ⊢; rw [ht]; exact hr)
  · intro p b hp
    rw [Tr.get_set_ne (by rintro rfl; rw [hpd] at hp; cases hp)]
    exact R.pvv p b hp
  · exact R.pin
  · exact R.pfr
  · exact R.pfo
  · intro p l hl
    by_cases h1 : p = d
    · subst h1; rw [Tr.get_set_self] at hl; cases hl; exact hv.elim
    · rw [Tr.get_set_ne h1] at hl; exact R.loc p l hl
  · show (a.tmps.setIfInBounds _ _).size = N; rw [Array.size_setIfInBounds]; exact R.size
  · exact R.lt
  · exact R.lr
  · exact R.top

open Classical in
def pvPut (pv : P → Option Nat) (d : P) (b : Nat) : P → Option Nat := fun q => if q = d then some b else pv q

/-- A variable of the frame begins. -/
theorem Rel.var_new (R : Rel L N hi j pv e nx h a w) {d : P} (hd : L d) (hN : d.n < N) (hnv : ¬ isVar d e) {l : List DV} {cs : Array Value} {t : Nat} (hl : VRs j l cs.toList) :
    Rel L N hi j (pvPut pv d w.heap.size) (Tr.set d e (some (.var l))) nx h (a.put (some d.n) (.pointer (some ⟨w.heap.size, 0, none⟩))) (w.alloc (.cells cs t)) ∧
    Fr hi nx.n j pv w j (pvPut pv d w.heap.size) (w.alloc (.cells cs t)) := by
  have hpd : pv d = none := by
    cases hp : pv d with
    | none => rfl
    | some b => obtain ⟨l, hl⟩ := R.pvv d b hp; exact absurd ⟨l, hl⟩ hnv
  have hsz : (w.alloc (.cells cs t)).heap.size = w.heap.size + 1 := by show (w.heap.push _).size = _; simp
  have hold : ∀ x, x < w.heap.size → (w.alloc (.cells cs t)).heap[x]? = w.heap[x]? := fun x hx => by show (w.heap.push _)[x]? = _; simp [Array.getElem?_push, Nat.ne_of_lt hx]
  have hpvlt : ∀ p b, pv p = some b → b < w.heap.size := fun p b hp => by
    obtain ⟨l, hl⟩ := R.pvv p b hp
    obtain ⟨b', hb', _, hlies, _⟩ := R.env p _ hl
    rw [hp] at hb'; cases hb'; exact hlies.lt
  have hself : pvPut pv d w.heap.size d = some w.heap.size := if_pos rfl
  have hother : ∀ q, q ≠ d → pvPut pv d w.heap.size q = pv q := fun q hq => if_neg hq
  have hlen := hl.length
  refine ⟨?_, ?_⟩
  · constructor
    · exact R.fresh
    · intro k i hk hlt
      refine HR.of_heap (Ext.refl j) rfl (by omega) ?_ (R.heap k i hk hlt)
      intro b hb
      rcases hb with ⟨s, c, rfl⟩ | ⟨s, rfl⟩
      · exact hold b (R.lt _ _ _ _ hk)
      · exact hold b (R.lr _ _ _ hk)
    · exact R.inj
    · exact R.inr
    · intro p u hu
      by_cases h1 : p = d
      · subst h1
        rw [Tr.get_set_self] at hu; cases hu
        refine ⟨w.heap.size, hself, by rw [put_getD, if_pos ⟨rfl, by rw [R.size]; exact hN⟩], ⟨by omega, fun i hi => ?_, fun i _ _ => by simp⟩, ?_⟩
        · rw [World.cell?_alloc_new]; simp only [Array.length_toList] at hlen; simp; omega
        · intro i v hv
          obtain ⟨v', hv', hr⟩ := hl.get i v hv
          exact ⟨v', by rw [Nat.zero_add, World.cell?_alloc_new]; simpa using hv', hr⟩
      · rw [Tr.get_set_ne h1] at hu
        have hr := R.env p u hu
        have ht : (a.put (some d.n) (.pointer (some ⟨w.heap.size, 0, none⟩))).tmps.getD p.n undef = a.tmps.getD p.n undef := by rw [put_getD, if_neg (fun h => h1 (P.n_inj h.1.symm))]
        have hr2 := ER.of_heap (w' := w.alloc (.cells cs t)) (Ext.refl j) (by omega) (fun b hb => hold b (hpvlt p b hb)) hr
        cases u
        case var m => obtain ⟨b, x1, x2, x3, x4⟩ := hr2; exact ⟨b, by rw [hother p h1]; exact x1, by rw [ht]; exact x2, x3, x4⟩
        case fld q o =>
          obtain ⟨b, x1, x2⟩ := hr2
          exact ⟨b, by rw [hother q (by rintro rfl; rw [hpd] at x1; cases x1)]; exact x1, by rw [ht]; exact x2⟩
        all_goals (simp only [ER, XD] at hr2 ⊢; rw [ht]; exact hr2)
    · intro p b hp
      by_cases h1 : p = d
      · subst h1; exact ⟨_, Tr.get_set_self _ _ _⟩
      · rw [hother p h1] at hp; rw [Tr.get_set_ne h1]; exact R.pvv p b hp
    · intro p q b hp hq
      by_cases h1 : p = d <;> by_cases h2 : q = d
      · rw [h1, h2]
      · subst h1; rw [hself] at hp; rw [hother q h2] at hq; cases hp; have := hpvlt q _ hq; omega
      · subst h2; rw [hself] at hq; rw [hother p h1] at hp; cases hq; have := hpvlt p _ hp; omega
      · rw [hother p h1] at hp; rw [hother q h2] at hq; exact R.pin _ _ _ hp hq
    · intro p b hp k s c hk
      by_cases h1 : p = d
      · subst h1; rw [hself] at hp; cases hp; have := R.lt _ _ _ _ hk; omega
      · rw [hother p h1] at hp; exact R.pfr p b hp k s c hk
    · intro p b hp k s hk
      by_cases h1 : p = d
      · subst h1; rw [hself] at hp; cases hp; have := R.lr _ _ _ hk; omega
      · rw [hother p h1] at hp; exact R.pfo p b hp k s hk
    · intro p m hm
      by_cases h1 : p = d
      · subst h1; exact hd
      · rw [Tr.get_set_ne h1] at hm; exact R.loc p m hm
    · show (a.tmps.setIfInBounds _ _).size = N; rw [Array.size_setIfInBounds]; exact R.size
    · intro k b s c hk; have := R.lt _ _ _ _ hk; omega
    · intro k b s hk; have := R.lr _ _ _ hk; omega
    · exact R.top
  · constructor
    · omega
    · rfl
    · rfl
    · intro x hx _ _; exact hold x hx
    · exact Ext.refl j
    · intro _ _; rfl
    · intro k h1 h2; exact absurd h1 h2
    · intro k x s c hk hlt; exact .inl ⟨k, s, c, hk, hlt⟩
    · intro _ _ _ h; exact h
    · intro p x hx
      by_cases h1 : p = d
      · subst h1; rw [hself] at hx; cases hx; exact .inr (Nat.le_refl _)
      · rw [hother p h1] at hx; exact .inl hx
    · intro ad; exact RowKit.frozen?_alloc_cells _ _ _ _

end
end Go.Proofs.Ythdlkpmhjbaplaa.Dx
