/- How the relation is kept: a store, a block that is given up, a variable of the frame. No statement of this seat is proved here. -/
import Derived.Test.YtnoekfkfinjfgaaGreatDoorUg
set_option autoImplicit false
set_option linter.unusedSectionVars false
set_option linter.unusedSimpArgs false
noncomputable section
namespace Go.Proofs.YtnoekfkfinjfgaaGreatDoor.Dx
open Go
variable [Rho]

theorem setCell_size (w : World) (a : Addr) (v : Value) : (w.setCell a v).heap.size = w.heap.size := by unfold World.setCell; simp
theorem setCell_other (w : World) (a : Addr) (v : Value) {x : Nat} (h : x ≠ a.block) : (w.setCell a v).heap[x]? = w.heap[x]? := by unfold World.setCell; simp [Array.getElem?_modify, Ne.symm h]
theorem setCells_size (b : Nat) : ∀ (vs : List Value) (o : Nat) (w : World), (w.setCells b o vs).heap.size = w.heap.size
  | [], _, _ => rfl
  | v :: r, o, w => by rw [World.setCells, setCells_size b r, setCell_size]
theorem setCells_other (b : Nat) : ∀ (vs : List Value) (o : Nat) (w : World) {x : Nat}, x ≠ b → (w.setCells b o vs).heap[x]? = w.heap[x]?
  | [], _, _, _, _ => rfl
  | v :: r, o, w, x, h => by rw [World.setCells, setCells_other b r _ _ h, setCell_other _ _ _ h]
theorem setCells_os (b : Nat) : ∀ (vs : List Value) (o : Nat) (w : World), (w.setCells b o vs).os = w.os ∧ (w.setCells b o vs).output = w.output
  | [], _, _ => ⟨rfl, rfl⟩
  | v :: r, o, w => by rw [World.setCells]; exact setCells_os b r _ _
theorem setCells_some (b : Nat) : ∀ (vs : List Value) (o : Nat) (w : World) (x : Addr), ((w.setCells b o vs).cell? x).isSome = (w.cell? x).isSome
  | [], _, _, _ => rfl
  | v :: r, o, w, x => by
    rw [World.setCells, setCells_some b r]
    by_cases h : (⟨b, o, none⟩ : Addr) = x
    · subst h
      cases hc : w.cell? ⟨b, o, none⟩ with
      | some u => rw [World.cell?_setCell_same _ _ _ hc]; rfl
      | none =>
        cases h2 : (w.setCell ⟨b, o, none⟩ v).cell? ⟨b, o, none⟩ with
        | none => rfl
        | some u =>
          exfalso
          unfold World.cell? at hc h2
          unfold World.setCell at h2
          simp only [Array.getElem?_modify] at h2
          cases hb : w.heap[b]? with
          | none => simp [hb] at h2
          | some ob => cases ob <;> simp_all
    · rw [World.cell?_setCell_other _ _ _ _ h]
theorem setCell_map (w : World) (a : Addr) (v : Value) {r n : Nat} {es : Array MapEntry} (h : w.heap[r]? = some (.map es n)) : (w.setCell a v).heap[r]? = some (.map es n) := by
  unfold World.setCell
  simp only [Array.getElem?_modify]
  by_cases hb : a.block = r
  · simp [hb, h]
  · simp [hb, h]
theorem setCells_map (b : Nat) : ∀ (vs : List Value) (o : Nat) (w : World) (r : Nat) (es : Array MapEntry) (n : Nat), w.heap[r]? = some (.map es n) → (w.setCells b o vs).heap[r]? = some (.map es n)
  | [], _, _, _, _, _, h => h
  | v :: vs, o, w, r, es, n, h => by rw [World.setCells]; exact setCells_map b vs _ _ r es n (setCell_map w _ v h)
theorem Lies.setCells {w : World} {b s c : Nat} (h : Lies w b s c) (b' o : Nat) (vs : List Value) : Lies (w.setCells b' o vs) b s c :=
  ⟨by rw [setCells_size]; exact h.lt, fun i hi => by rw [setCells_some]; exact h.cell i hi, fun i h1 h2 => by rw [World.frozen?_setCells]; exact h.free i h1 h2⟩

/-- The cells behind a store. -/
theorem CellsAt.store {j : J} {w : World} {b s : Nat} {l cl : List DV} {vs : List Value} {o : Nat} (h : CellsAt j w b s l) (hv : VRs j cl vs) (ho : o + cl.length ≤ l.length)
    (hc : ∀ i, i < l.length → (w.cell? ⟨b, s + i, none⟩).isSome = true) : CellsAt j (w.setCells b (s + o) vs) b s (l.take o ++ cl ++ l.drop (o + cl.length)) := by
  intro i v hi
  have hlen := hv.length
  by_cases h1 : i < o
  · rw [List.getElem?_append_left (by simp; omega), List.getElem?_append_left (by simp; omega), List.getElem?_take, if_pos h1] at hi
    obtain ⟨v', a, r⟩ := h i v hi
    exact ⟨v', by rw [World.cell?_setCells_out]; exact a; intro _ _; left; show s + i < s + o; omega, r⟩
  · by_cases h2 : i < o + cl.length
    · rw [List.getElem?_append_left (by simp; omega), List.getElem?_append_right (by simp; omega)] at hi
      simp only [List.length_take, show min o l.length = o by omega] at hi
      obtain ⟨v', a, r⟩ := hv.get _ v hi
      have hlt : i - o < vs.length := (List.getElem?_eq_some_iff.1 a).1
      refine ⟨v', ?_, r⟩
      have := World.cell?_setCells_in b vs (s + o) w (fun q hq => by rw [show s + o + q = s + (o + q) by omega]; exact hc _ (by omega)) (i - o) hlt
      rw [show s + i = s + o + (i - o) by omega, this, ← a, List.getElem?_eq_getElem hlt]
    · rw [List.getElem?_append_right (by simp; omega)] at hi
      simp only [List.length_append, List.length_take, show min o l.length = o by omega, List.getElem?_drop] at hi
      rw [show o + cl.length + (i - (o + cl.length)) = i by omega] at hi
      obtain ⟨v', a, r⟩ := h i v hi
      exact ⟨v', by rw [World.cell?_setCells_out]; exact a; intro _ _; right; show s + o + vs.length ≤ s + i; omega, r⟩

section
variable {L : P → Prop} {N hi : Nat} {j : J} {pv : P → Option Nat} {e : Env} {nx : P} {h : Hp} {a : Act} {w : World}

/-- What a change in one mapped block leaves. -/
theorem Rel.at_store (R : Rel L N hi j pv e nx h a w) (hnh : nx.n ≤ hi) {k : P} {b s c : Nat} (hk : j k = some (.at b s c)) (hlt : k.n < nx.n) {l cl : List DV} {vs : List Value} {o : Nat}
    (hg : Tr.get? k h = some (.cells l)) (hv : VRs j cl vs) (ho : o + cl.length ≤ l.length) :
    Rel L N hi j pv e nx (Tr.set k h (some (.cells (l.take o ++ cl ++ l.drop (o + cl.length))))) a (w.setCells b (s + o) vs) ∧ Fr hi nx.n j pv w j pv (w.setCells b (s + o) vs) := by
  have H : HR j h w k (.at b s c) := R.heap k _ hk hlt
  obtain ⟨hlies, l', hg', hle, hcells⟩ := H
  rw [hg] at hg'; cases hg'
  have hne : ∀ x, x ≠ b → (w.setCells b (s + o) vs).heap[x]? = w.heap[x]? := fun x hx => setCells_other b vs _ w hx
  have hsz := setCells_size b vs (s + o) w
  refine ⟨?_, ?_⟩
  · constructor
    · exact R.fresh
    · intro k' i hk' hlt'
      by_cases h1 : k' = k
      · subst h1
        rw [hk] at hk'; cases hk'
        refine ⟨hlies.setCells _ _ _, _, Tr.get_set_self _ _ _, ?_, hcells.store hv ho ?_⟩
        · simp; omega
        · intro i hi'; exact hlies.cell _ (by omega)
      · refine HR.of_heap (Ext.refl j) (Tr.get_set_ne h1 _ _) (by omega) ?_ (fun r es n _ => setCells_map b vs _ w r es n) (R.heap k' i hk' hlt')
        intro x hx
        refine hne x ?_
        rintro rfl
        rcases hx with ⟨s', c', rfl⟩ | ⟨s', rfl⟩
        · exact h1 (R.inj _ _ _ _ _ _ _ hk' hk)
        · exact R.inr _ _ _ _ _ _ hk hk'
    · exact R.inj
    · exact R.inr
    · intro p v hpv
      refine ER.of_heap (Ext.refl j) (by omega) ?_ (R.env p v hpv)
      intro x hx
      exact hne x (by rintro rfl; exact R.pfr p _ hx _ _ _ hk)
    · exact R.pvv
    · exact R.pin
    · exact R.pfr
    · exact R.pfo
    · exact R.loc
    · exact R.size
    · intro k' b' s' c' hk'; rw [hsz]; exact R.lt _ _ _ _ hk'
    · intro k' b' s' hk'; rw [hsz]; exact R.lr _ _ _ hk'
    · intro k' hk'; rw [Tr.get_set_ne (by rintro rfl; omega)]; exact R.top k' hk'
    · exact R.maps.keep (setCells_map b vs _ w)
    · exact R.pfm
  · constructor
    · omega
    · exact (setCells_os b vs _ w).1
    · exact (setCells_os b vs _ w).2
    · intro x hx hj hp _
      refine hne x ?_
      rintro rfl
      have := hj _ _ _ hk; omega
    · exact Ext.refl j
    · intro k' _; rfl
    · intro k' h1 h2; exact absurd h1 h2
    · intro k' x s' c' hk' hlt'; exact .inl ⟨k', s', c', hk', hlt'⟩
    · intro _ _ _ h; exact .inl h
    · intro p x hx; exact .inl hx
    · intro ad _; exact World.frozen?_setCells _ _ _ _ _
    · intro k' x hk' hlt'; exact .inl ⟨k', hk', hlt'⟩

/-- A store into a variable of the frame. -/
theorem Rel.var_store (R : Rel L N hi j pv e nx h a w) {p : P} {b : Nat} (hp : pv p = some b) {l cl : List DV} {vs : List Value} {o : Nat}
    (hg : Tr.get? p e = some (.var l)) (hv : VRs j cl vs) (ho : o + cl.length ≤ l.length) :
    Rel L N hi j pv (Tr.set p e (some (.var (l.take o ++ cl ++ l.drop (o + cl.length))))) nx h a (w.setCells b o vs) ∧ Fr hi nx.n j pv w j pv (w.setCells b o vs) := by
  obtain ⟨b', hb', htm, hlies, hcells⟩ := R.env p _ hg
  rw [hp] at hb'; cases hb'
  have hne : ∀ x, x ≠ b → (w.setCells b o vs).heap[x]? = w.heap[x]? := fun x hx => setCells_other b vs _ w hx
  have hsz := setCells_size b vs o w
  refine ⟨?_, ?_⟩
  · constructor
    · exact R.fresh
    · intro k' i hk' hlt'
      refine HR.of_heap (Ext.refl j) rfl (by omega) ?_ (fun r es n _ => setCells_map b vs _ w r es n) (R.heap k' i hk' hlt')
      intro x hx
      refine hne x ?_
      rintro rfl
      rcases hx with ⟨s', c', rfl⟩ | ⟨s', rfl⟩
      · exact R.pfr p _ hp _ _ _ hk'
      · exact R.pfo p _ hp _ _ hk'
    · exact R.inj
    · exact R.inr
    · intro q v hq
      by_cases h1 : q = p
      · subst h1
        rw [Tr.get_set_self] at hq; cases hq
        refine ⟨b, hp, htm, ?_, ?_⟩
        · have := hlies.setCells b o vs
          have hlen : (l.take o ++ cl ++ l.drop (o + cl.length)).length = l.length := by simp; omega
          rw [hlen]; exact this
        · have := hcells.store (s := 0) hv ho (fun i hi' => by rw [Nat.zero_add]; exact hlies.cell i hi')
          rwa [Nat.zero_add] at this
      · rw [Tr.get_set_ne h1] at hq
        refine ER.of_heap (Ext.refl j) (by omega) ?_ (R.env q v hq)
        intro x hx
        exact hne x (by rintro rfl; exact h1 (R.pin _ _ _ hx hp))
    · intro q x hx
      by_cases h1 : q = p
      · subst h1; exact ⟨_, Tr.get_set_self _ _ _⟩
      · rw [Tr.get_set_ne h1]; exact R.pvv q x hx
    · exact R.pin
    · exact R.pfr
    · exact R.pfo
    · intro q m hq
      by_cases h1 : q = p
      · subst h1; exact R.loc _ _ hg
      · rw [Tr.get_set_ne h1] at hq; exact R.loc _ _ hq
    · exact R.size
    · intro k' b' s' c' hk'; rw [hsz]; exact R.lt _ _ _ _ hk'
    · intro k' b' s' hk'; rw [hsz]; exact R.lr _ _ _ hk'
    · exact R.top
    · exact R.maps.keep (setCells_map b vs _ w)
    · exact R.pfm
  · constructor
    · omega
    · exact (setCells_os b vs _ w).1
    · exact (setCells_os b vs _ w).2
    · intro x hx hj hpn _
      refine hne x ?_
      rintro rfl
      exact hpn p hp
    · exact Ext.refl j
    · intro k' _; rfl
    · intro k' h1 h2; exact absurd h1 h2
    · intro k' x s' c' hk' hlt'; exact .inl ⟨k', s', c', hk', hlt'⟩
    · intro _ _ _ h; exact .inl h
    · intro p x hx; exact .inl hx
    · intro ad _; exact World.frozen?_setCells _ _ _ _ _
    · intro k' x hk' hlt'; exact .inl ⟨k', hk', hlt'⟩

/-- A block is given up. -/
theorem Rel.kill (R : Rel L N hi j pv e nx h a w) (hnh : nx.n ≤ hi) {k : P} (hlt : k.n < nx.n) (hns : j k ≠ none) (hro : ∀ b s, j k ≠ some (.ro b s)) :
    Rel L N hi (j.put k .dead) pv e nx (Tr.set k h (some .dead)) a w ∧ Fr hi nx.n j pv w (j.put k .dead) pv w := by
  refine ⟨?_, ?_⟩
  · constructor
    · intro k' i hk'
      by_cases h1 : k' = k
      · subst h1; exact .inl hlt
      · rw [J.put_ne j h1] at hk'; exact R.fresh _ _ hk'
    · intro k' i hk' hlt'
      by_cases h1 : k' = k
      · subst h1; rw [J.put_self] at hk'; cases hk'; exact Tr.get_set_self _ _ _
      · rw [J.put_ne j h1] at hk'
        exact HR.of_heap Ext.put_dead (Tr.get_set_ne h1 _ _) (Nat.le_refl _) (fun _ _ => rfl) (fun _ _ _ _ h => h) (R.heap k' i hk' hlt')
    · intro k1 k2 b s c s' c' h1 h2
      by_cases e1 : k1 = k
      · subst e1; rw [J.put_self] at h1; cases h1
      · by_cases e2 : k2 = k
        · subst e2; rw [J.put_self] at h2; cases h2
        · rw [J.put_ne j e1] at h1; rw [J.put_ne j e2] at h2; exact R.inj _ _ _ _ _ _ _ h1 h2
    · intro k1 k2 b s c s' h1 h2
      by_cases e1 : k1 = k
      · subst e1; rw [J.put_self] at h1; cases h1
      · by_cases e2 : k2 = k
        · subst e2; rw [J.put_self] at h2; cases h2
        · rw [J.put_ne j e1] at h1; rw [J.put_ne j e2] at h2; exact R.inr _ _ _ _ _ _ h1 h2
    · intro p v hv; exact ER.of_heap Ext.put_dead (Nat.le_refl _) (fun _ _ => rfl) (R.env p v hv)
    · exact R.pvv
    · exact R.pin
    · intro p b hb k' s c hk'
      by_cases h1 : k' = k
      · subst h1; rw [J.put_self] at hk'; cases hk'
      · rw [J.put_ne j h1] at hk'; exact R.pfr p b hb _ _ _ hk'
    · intro p b hb k' s hk'
      by_cases h1 : k' = k
      · subst h1; rw [J.put_self] at hk'; cases hk'
      · rw [J.put_ne j h1] at hk'; exact R.pfo p b hb _ _ hk'
    · exact R.loc
    · exact R.size
    · intro k' b s c hk'
      by_cases h1 : k' = k
      · subst h1; rw [J.put_self] at hk'; cases hk'
      · rw [J.put_ne j h1] at hk'; exact R.lt _ _ _ _ hk'
    · intro k' b s hk'
      by_cases h1 : k' = k
      · subst h1; rw [J.put_self] at hk'; cases hk'
      · rw [J.put_ne j h1] at hk'; exact R.lr _ _ _ hk'
    · intro k' hk'; rw [Tr.get_set_ne (by rintro rfl; omega)]; exact R.top k' hk'
    · exact R.maps.put _ _ (by intro r h; cases h) (by intro b s h; cases h) hro (by intro b s c h; cases h)
    · intro p b hb k' hk'
      by_cases h1 : k' = k
      · subst h1; rw [J.put_self] at hk'; cases hk'
      · rw [J.put_ne j h1] at hk'; exact R.pfm p b hb _ hk'
  · constructor
    · exact Nat.le_refl _
    · rfl
    · rfl
    · intro _ _ _ _ _; rfl
    · exact Ext.put_dead
    · intro k' hk'; exact J.put_ne j (by rintro rfl; omega) _
    · intro k' h1 h2
      by_cases e1 : k' = k
      · subst e1; exact absurd h1 hns
      · rw [J.put_ne j e1] at h2; exact absurd h1 h2
    · intro k' x s c hk' hl
      by_cases e1 : k' = k
      · subst e1; rw [J.put_self] at hk'; cases hk'
      · rw [J.put_ne j e1] at hk'; exact .inl ⟨k', s, c, hk', hl⟩
    · intro k' x s hk'
      by_cases e1 : k' = k
      · subst e1; rw [J.put_self] at hk'; cases hk'
      · rw [J.put_ne j e1] at hk'; exact .inl hk'
    · intro p x hx; exact .inl hx
    · intro ad _; rfl
    · intro k' x hk' hl
      by_cases e1 : k' = k
      · subst e1; rw [J.put_self] at hk'; cases hk'
      · rw [J.put_ne j e1] at hk'; exact .inl ⟨k', hk', hl⟩


theorem put_getD (a : Act) (d : Nat) (v : Value) (x : Nat) : (a.put (some d) v).tmps.getD x undef = if d = x ∧ x < a.tmps.size then v else a.tmps.getD x undef := by
  show (a.tmps.setIfInBounds d v).getD x undef = _
  simp only [Array.getD_eq_getD_getElem?, Array.getElem?_setIfInBounds]
  by_cases h : d = x
  · subst h
    by_cases h2 : d < a.tmps.size
    · simp [h2]
    · simp [h2]
  · simp [h]
theorem XD.tmps {pv : P → Option Nat} {v : DV} {v' : Value} (h : XD j pv v v') {w : World} {tm : Array Value} {p : P} (ht : tm.getD p.n undef = v') : ER j pv w tm p v := by
  cases v <;> first | exact h.elim | (simp only [ER]; rw [ht]; exact h)

/-- A temporary is written. -/
theorem Rel.put (R : Rel L N hi j pv e nx h a w) {d : P} (hd : ¬ L d) (hN : d.n < N) {v : DV} {v' : Value} (hv : XD j pv v v') :
    Rel L N hi j pv (Tr.set d e (some v)) nx h (a.put (some d.n) v') w := by
  have hnv : ∀ l, Tr.get? d e ≠ some (.var l) := fun l hl => hd (R.loc d l hl)
  have hpd : pv d = none := by
    cases hp : pv d with
    | none => rfl
    | some b => obtain ⟨l, hl⟩ := R.pvv d b hp; exact absurd hl (hnv l)
  constructor
  · exact R.fresh
  · exact R.heap
  · exact R.inj
  · exact R.inr
  · intro p u hu
    by_cases h1 : p = d
    · subst h1
      rw [Tr.get_set_self] at hu; cases hu
      exact hv.tmps (by rw [put_getD, if_pos ⟨rfl, by rw [R.size]; exact hN⟩])
    · rw [Tr.get_set_ne h1] at hu
      have hr := R.env p u hu
      have ht : (a.put (some d.n) v').tmps.getD p.n undef = a.tmps.getD p.n undef := by rw [put_getD, if_neg (fun h => h1 (P.n_inj h.1.symm))]
      cases u <;> (simp only [ER] at hr ⊢; rw [ht]; exact hr)
  · intro p b hp
    rw [Tr.get_set_ne (by rintro rfl; rw [hpd] at hp; cases hp)]
    exact R.pvv p b hp
  · exact R.pin
  · exact R.pfr
  · exact R.pfo
  · intro p l hl
    by_cases h1 : p = d
    · subst h1; rw [Tr.get_set_self] at hl; cases hl; exact hv.elim
    · rw [Tr.get_set_ne h1] at hl; exact R.loc p l hl
  · show (a.tmps.setIfInBounds _ _).size = N; rw [Array.size_setIfInBounds]; exact R.size
  · exact R.lt
  · exact R.lr
  · exact R.top
  · exact R.maps
  · exact R.pfm

open Classical in
def pvPut (pv : P → Option Nat) (d : P) (b : Nat) : P → Option Nat := fun q => if q = d then some b else pv q

/-- A variable of the frame begins. -/
theorem Rel.var_new (R : Rel L N hi j pv e nx h a w) {d : P} (hd : L d) (hN : d.n < N) (hnv : ¬ isVar d e) {l : List DV} {cs : Array Value} {t : Nat} (hl : VRs j l cs.toList) :
    Rel L N hi j (pvPut pv d w.heap.size) (Tr.set d e (some (.var l))) nx h (a.put (some d.n) (.pointer (some ⟨w.heap.size, 0, none⟩))) (w.alloc (.cells cs t)) ∧
    Fr hi nx.n j pv w j (pvPut pv d w.heap.size) (w.alloc (.cells cs t)) := by
  have hpd : pv d = none := by
    cases hp : pv d with
    | none => rfl
    | some b => obtain ⟨l, hl⟩ := R.pvv d b hp; exact absurd ⟨l, hl⟩ hnv
  have hsz : (w.alloc (.cells cs t)).heap.size = w.heap.size + 1 := by show (w.heap.push _).size = _; simp
  have hold : ∀ x, x < w.heap.size → (w.alloc (.cells cs t)).heap[x]? = w.heap[x]? := fun x hx => by show (w.heap.push _)[x]? = _; simp [Array.getElem?_push, Nat.ne_of_lt hx]
  have hpvlt : ∀ p b, pv p = some b → b < w.heap.size := fun p b hp => by
    obtain ⟨l, hl⟩ := R.pvv p b hp
    obtain ⟨b', hb', _, hlies, _⟩ := R.env p _ hl
    rw [hp] at hb'; cases hb'; exact hlies.lt
  have hself : pvPut pv d w.heap.size d = some w.heap.size := if_pos rfl
  have hother : ∀ q, q ≠ d → pvPut pv d w.heap.size q = pv q := fun q hq => if_neg hq
  have hlen := hl.length
  refine ⟨?_, ?_⟩
  · constructor
    · exact R.fresh
    · intro k i hk hlt
      refine HR.of_heap (Ext.refl j) rfl (by omega) ?_ (fun r es n _ => alloc_map w _ r es n) (R.heap k i hk hlt)
      intro b hb
      rcases hb with ⟨s, c, rfl⟩ | ⟨s, rfl⟩
      · exact hold b (R.lt _ _ _ _ hk)
      · exact hold b (R.lr _ _ _ hk)
    · exact R.inj
    · exact R.inr
    · intro p u hu
      by_cases h1 : p = d
      · subst h1
        rw [Tr.get_set_self] at hu; cases hu
        refine ⟨w.heap.size, hself, by rw [put_getD, if_pos ⟨rfl, by rw [R.size]; exact hN⟩], ⟨by omega, fun i hi => ?_, fun i _ _ => by simp⟩, ?_⟩
        · rw [World.cell?_alloc_new]; simp only [Array.length_toList] at hlen; simp; omega
        · intro i v hv
          obtain ⟨v', hv', hr⟩ := hl.get i v hv
          exact ⟨v', by rw [Nat.zero_add, World.cell?_alloc_new]; simpa using hv', hr⟩
      · rw [Tr.get_set_ne h1] at hu
        have hr := R.env p u hu
        have ht : (a.put (some d.n) (.pointer (some ⟨w.heap.size, 0, none⟩))).tmps.getD p.n undef = a.tmps.getD p.n undef := by rw [put_getD, if_neg (fun h => h1 (P.n_inj h.1.symm))]
        have hr2 := ER.of_heap (w' := w.alloc (.cells cs t)) (Ext.refl j) (by omega) (fun b hb => hold b (hpvlt p b hb)) hr
        cases u
        case var m => obtain ⟨b, x1, x2, x3, x4⟩ := hr2; exact ⟨b, by rw [hother p h1]; exact x1, by rw [ht]; exact x2, x3, x4⟩
        case fld q o =>
          obtain ⟨b, x1, x2⟩ := hr2
          exact ⟨b, by rw [hother q (by rintro rfl; rw [hpd] at x1; cases x1)]; exact x1, by rw [ht]; exact x2⟩
        all_goals (simp only [ER, XD] at hr2 ⊢; rw [ht]; exact hr2)
    · intro p b hp
      by_cases h1 : p = d
      · subst h1; exact ⟨_, Tr.get_set_self _ _ _⟩
      · rw [hother p h1] at hp; rw [Tr.get_set_ne h1]; exact R.pvv p b hp
    · intro p q b hp hq
      by_cases h1 : p = d <;> by_cases h2 : q = d
      · rw [h1, h2]
      · subst h1; rw [hself] at hp; rw [hother q h2] at hq; cases hp; have := hpvlt q _ hq; omega
      · subst h2; rw [hself] at hq; rw [hother p h1] at hp; cases hq; have := hpvlt p _ hp; omega
      · rw [hother p h1] at hp; rw [hother q h2] at hq; exact R.pin _ _ _ hp hq
    · intro p b hp k s c hk
      by_cases h1 : p = d
      · subst h1; rw [hself] at hp; cases hp; have := R.lt _ _ _ _ hk; omega
      · rw [hother p h1] at hp; exact R.pfr p b hp k s c hk
    · intro p b hp k s hk
      by_cases h1 : p = d
      · subst h1; rw [hself] at hp; cases hp; have := R.lr _ _ _ hk; omega
      · rw [hother p h1] at hp; exact R.pfo p b hp k s hk
    · intro p m hm
      by_cases h1 : p = d
      · subst h1; exact hd
      · rw [Tr.get_set_ne h1] at hm; exact R.loc p m hm
    · show (a.tmps.setIfInBounds _ _).size = N; rw [Array.size_setIfInBounds]; exact R.size
    · intro k b s c hk; have := R.lt _ _ _ _ hk; omega
    · intro k b s hk; have := R.lr _ _ _ hk; omega
    · exact R.top
    · exact R.maps.keep (alloc_map w _)
    · intro p b hp k hk
      by_cases h1 : p = d
      · subst h1; rw [hself] at hp; cases hp
        obtain ⟨es, n, he⟩ := R.maps.kind _ _ hk
        have := (Array.getElem?_eq_some_iff.1 he).1; omega
      · rw [hother p h1] at hp; exact R.pfm p b hp k hk
  · constructor
    · omega
    · rfl
    · rfl
    · intro x hx _ _ _; exact hold x hx
    · exact Ext.refl j
    · intro _ _; rfl
    · intro k h1 h2; exact absurd h1 h2
    · intro k x s c hk hlt; exact .inl ⟨k, s, c, hk, hlt⟩
    · intro _ _ _ h; exact .inl h
    · intro p x hx
      by_cases h1 : p = d
      · subst h1; rw [hself] at hx; cases hx; exact .inr (Nat.le_refl _)
      · rw [hother p h1] at hx; exact .inl hx
    · intro ad _; exact RowKit.frozen?_alloc_cells _ _ _ _
    · intro k x hk hlt; exact .inl ⟨k, hk, hlt⟩

end
end Go.Proofs.YtnoekfkfinjfgaaGreatDoor.Dx

set_option autoImplicit false
set_option linter.unusedSectionVars false
set_option linter.unusedSimpArgs false
noncomputable section
namespace Go.Proofs.YtnoekfkfinjfgaaGreatDoor.Dx
open Go
variable [Rho]

/-- An instruction's step, beside Go's. -/
def MemOk (Pr : Program) (o : Oper) (e : Env) (nx : P) (h : Hp) (e' : Env) (v : DV) (nx' : P) (h' : Hp) : Prop :=
  ∀ (L : P → Prop) (N hi : Nat) (j : J) (pv : P → Option Nat) (a : Act) (w : World), Rel L N hi j pv e nx h a w → nx'.n ≤ hi →
    ∃ j' w' nxt v', (execOp a.eval o).run Pr w = .ok nxt w' ∧ (nxt = .value v' ∨ nxt = .skip ∧ v' = undef) ∧ Rel L N hi j' pv e' nx' h' a w' ∧ Fr hi nx.n j pv w j' pv w' ∧ XD j' pv v v'

theorem eval_const (a : Act) (v : Value) : a.eval (.const v) = v := rfl

theorem memOk_pure {Pr : Program} {i : Ins} {o : Oper} {e : Env} {v : DV} {nx : P} {h : Hp} (hv : pureDV i e = some v) (hc : chkPure Pr i o.op = true) : MemOk Pr o e nx h e v nx h := by
  intro L N hi j pv a w R _
  obtain ⟨v', hr, hx⟩ := pure_sim hv hc R.reads (eval_const a) w
  exact ⟨j, w, _, v', hr, .inl rfl, R, Fr.refl _ _ _ _ _, hx⟩

section
variable {L : P → Prop} {N hi : Nat} {j : J} {pv : P → Option Nat} {e : Env} {nx : P} {h : Hp} {a : Act} {w : World}

/-- What is met behind an address. -/
theorem Rel.look (R : Rel L N hi j pv e nx h a w) {v : DV} {v' : Value} (hv : XD j pv v v') {l : List DV} {o : Nat} (hl : look v e h = some (l, o)) :
    ∃ b s, v' = .pointer (some ⟨b, s + o, none⟩) ∧ CellsAt j w b s l := by
  cases v <;> simp only [Dx.look, reduceCtorEq] at hl
  case ptr k o' =>
    have hlt : k.n < nx.n := by
      rcases Nat.lt_or_ge k.n nx.n with h | h
      · exact h
      · rw [R.top k h] at hl; simp at hl
    cases (hv : VR j _ _) with
    | ptrA hk =>
      obtain ⟨_, l', hg, _, hc⟩ := R.heap k _ hk hlt
      simp only [hg, Option.some.injEq, Prod.mk.injEq] at hl
      obtain ⟨rfl, rfl⟩ := hl
      exact ⟨_, _, rfl, hc⟩
    | ptrO hk =>
      obtain ⟨l', hg, _, hc⟩ := R.heap k _ hk hlt
      simp only [hg, Option.some.injEq, Prod.mk.injEq] at hl
      obtain ⟨rfl, rfl⟩ := hl
      exact ⟨_, _, rfl, hc⟩
    | ptrD a hk =>
      have hg : Tr.get? k h = some .dead := R.heap k _ hk hlt
      simp [hg] at hl
  case fld q o' =>
    obtain ⟨b, hb, hp⟩ := hv
    obtain ⟨m, hm⟩ := R.pvv q b hb
    simp only [hm, Option.some.injEq, Prod.mk.injEq] at hl
    obtain ⟨rfl, rfl⟩ := hl
    obtain ⟨b', hb', _, _, hc⟩ := R.env q _ hm
    rw [hb] at hb'; cases hb'
    exact ⟨b, 0, by rw [hp, Nat.zero_add], hc⟩
theorem run_loadAt_one {Pr : Program} {t : Nat} (ht : aggIs Pr t false = true) {b o : Nat} {v : Value} (hc : w.cell? ⟨b, o, none⟩ = some v) :
    (Instr.loadAt t (.pointer (some ⟨b, o, none⟩))).run Pr w = .ok v w := by
  simp only [Instr.loadAt, Instr.sureAddr, Sem.run_bind, Sem.run_pure, Result.andThen_ok, loadVar, aggIs_spec ht]
  simp only [Bool.false_eq_true, if_false, run_load, hc]
theorem run_loadAt_many {Pr : Program} {t n : Nat} (ht : aggIs Pr t true = true) (hs : sizeIs Pr t n = true) {b o : Nat} {vs : List Value} (hn : vs.length = n)
    (hc : ∀ i v, vs[i]? = some v → w.cell? ⟨b, o + i, none⟩ = some v) : (Instr.loadAt t (.pointer (some ⟨b, o, none⟩))).run Pr w = .ok (.agg vs.toArray) w := by
  obtain ⟨i, hi, hsz⟩ := sizeIs_spec hs
  have hso : (sizeOf t).run Pr w = .ok n w := by simp [sizeOf, typeInfo, hi, hsz]
  have hl : (loadCells ⟨b, o, none⟩ vs.length).run Pr w = .ok vs.toArray w := run_loadCells_list (P := Pr) w ⟨b, o, none⟩ vs (fun q v hv => by rw [Addr.add_mid]; exact hc q v hv)
  rw [hn] at hl
  simp only [Instr.loadAt, Instr.sureAddr, Sem.run_bind, Sem.run_pure, Result.andThen_ok, loadVar, aggIs_spec ht, if_true, hso, hl]
/-- cells of a stretch -/
theorem CellsAt.part {b s : Nat} {l : List DV} (hc : CellsAt j w b s l) (o n : Nat) (hn : n ≤ (l.drop o).length) :
    ∃ vs : List Value, VRs j ((l.drop o).take n) vs ∧ vs.length = n ∧ ∀ i v, vs[i]? = some v → w.cell? ⟨b, s + o + i, none⟩ = some v := by
  induction n with
  | zero => exact ⟨[], by simpa using VRs.nil, rfl, by simp⟩
  | succ n ih =>
    obtain ⟨vs, h1, h2, h3⟩ := ih (by omega)
    simp only [List.length_drop] at hn
    have hlt : o + n < l.length := by omega
    obtain ⟨v', hv', hr, h1'⟩ := hc (o + n) l[o + n] (by rw [List.getElem?_eq_getElem hlt])
    refine ⟨vs ++ [v'], ?_, by simp [h2], ?_⟩
    · have : (l.drop o).take (n + 1) = (l.drop o).take n ++ [l[o + n]] := by
        rw [List.take_succ_eq_append_getElem (by simp; omega)]
        simp
      rw [this]
      exact h1.append (.cons hr h1' .nil)
    · intro i v hv
      by_cases hi : i < n
      · rw [List.getElem?_append_left (by omega)] at hv; exact h3 i v hv
      · have : i = n := by
          have := (List.getElem?_eq_some_iff.1 hv).1
          simp [h2] at this; omega
        subst this
        rw [List.getElem?_append_right (by omega), h2] at hv
        simp at hv; subst hv
        rw [Nat.add_assoc]; exact hv'
end

theorem memOk_ld {Pr : Program} {o : Oper} {d : Opd} {e : Env} {nx : P} {h : Hp} {l : List DV} {i : Nat} {v : DV} {t : Nat} {x : Operand} (ho : o.op = .load t x) (hd : chkOpd d x = true) (ht : aggIs Pr t false = true)
    (hl : look (ev d e) e h = some (l, i)) (hv : l[i]? = some v) : MemOk Pr o e nx h e v nx h := by
  intro L N hi j pv a w R _
  obtain ⟨b, s, hp, hc⟩ := R.look (R.reads d x hd) hl
  obtain ⟨v', hcell, hr, _⟩ := hc i v hv
  refine ⟨j, w, .value v', v', ?_, .inl rfl, R, Fr.refl _ _ _ _ _, XD.of_VR hr⟩
  simp only [execOp, ho, hp, Sem.run_bind, run_loadAt_one ht hcell, Result.andThen_ok, Sem.run_pure]
theorem memOk_lda {Pr : Program} {o : Oper} {d : Opd} {e : Env} {nx : P} {h : Hp} {l : List DV} {i n : Nat} {t : Nat} {x : Operand} (ho : o.op = .load t x) (hd : chkOpd d x = true) (ht : aggIs Pr t true = true) (hs : sizeIs Pr t n = true)
    (hl : look (ev d e) e h = some (l, i)) (hn : n ≤ (l.drop i).length) : MemOk Pr o e nx h e (.agg ((l.drop i).take n)) nx h := by
  intro L N hi j pv a w R _
  obtain ⟨b, s, hp, hc⟩ := R.look (R.reads d x hd) hl
  obtain ⟨vs, h1, h2, h3⟩ := hc.part i n hn
  refine ⟨j, w, .value (.agg vs.toArray), .agg vs.toArray, ?_, .inl rfl, R, Fr.refl _ _ _ _ _, VR.agg h1⟩
  simp only [execOp, ho, hp, Sem.run_bind, run_loadAt_many ht hs h2 h3, Result.andThen_ok, Sem.run_pure]

theorem run_storeAt_ok {Pr : Program} {t n : Nat} {w : World} {b o : Nat} {v : Value} (hs : sizeIs Pr t n = true) (hn : v.cells.toList.length = n) (h1 : ∀ u ∈ v.cells.toList, u.oneCell' = true)
    (hc : ∀ i, i < n → (w.cell? ⟨b, o + i, none⟩).isSome = true) (hf : ∀ i, i < n → w.frozen? ⟨b, o + i, none⟩ = false) :
    (Instr.storeAt t (.pointer (some ⟨b, o, none⟩)) v).run Pr w = .ok () (w.setCells b o v.cells.toList) := by
  obtain ⟨it, hi, hsz⟩ := sizeIs_spec hs
  have hso : (sizeOf t).run Pr w = .ok n w := by simp [sizeOf, typeInfo, hi, hsz]
  have hst := run_storeCells_cells (P := Pr) b o v.cells.toList 0 w (fun q hq => by simpa using hc q (by omega)) (fun q hq => by simpa using hf q (by omega)) h1
  have hsize : v.cells.size = n := by simpa using hn
  simp only [Nat.add_zero] at hst
  simp only [Instr.storeAt, Instr.sureAddr, Sem.run_bind, Sem.run_pure, Result.andThen_ok, storeVar, hso]
  simp [hsize, hst]

theorem memOk_st {Pr : Program} {o : Oper} {d dv : Opd} {e : Env} {nx : P} {h : Hp} {k : P} {l c : List DV} {i n : Nat} {t : Nat} {x y : Operand} (ho : o.op = .store t x y) (hd : chkOpd d x = true) (hdv : chkOpd dv y = true) (hs : sizeIs Pr t n = true)
    (hk : ev d e = .ptr k i) (hg : Tr.get? k h = some (.cells l)) (hc : (ov dv e).cells = some c) (hn : c.length = n) (hle : i + c.length ≤ l.length) :
    MemOk Pr o e nx h e (.tup []) nx (Tr.set k h (some (.cells (l.take i ++ c ++ l.drop (i + c.length))))) := by
  intro L N hi j pv a w R hnh
  have hx := R.reads d x hd
  rw [hk] at hx
  have hlt : k.n < nx.n := by
    rcases Nat.lt_or_ge k.n nx.n with h' | h'
    · exact h'
    · rw [R.top k h'] at hg; cases hg
  have hcs := (R.reads.ov hdv).cells hc
  have hlen := hcs.length
  generalize hxe : a.eval x = v' at hx
  cases (hx : VR j _ _) with
  | ptrO hjk => obtain ⟨_, hg', _⟩ := R.heap k _ hjk hlt; rw [hg] at hg'; cases hg'
  | ptrD _ hjk => have hg' : Tr.get? k h = some .dead := R.heap k _ hjk hlt; rw [hg] at hg'; cases hg'
  | ptrA hjk =>
    rename_i b s cc
    obtain ⟨hlies, l', hg', hll, _⟩ := R.heap k _ hjk hlt
    rw [hg] at hg'; cases hg'
    obtain ⟨R', F'⟩ := R.at_store hnh hjk hlt hg hcs hle
    refine ⟨j, _, .skip, undef, ?_, .inr ⟨rfl, rfl⟩, R', F', VR.tup (l' := []) .nil⟩
    have hst := run_storeAt_ok (Pr := Pr) (w := w) (b := b) (o := s + i) (v := a.eval y) hs (by omega) hcs.ones (fun q hq => hlies.cell _ (by omega)) (fun q hq => hlies.free _ (by omega) (by omega))
    simp only [execOp, ho, hxe, Sem.run_bind, hst, Result.andThen_ok, Sem.run_pure]
theorem memOk_stv {Pr : Program} {o : Oper} {d dv : Opd} {e : Env} {nx : P} {h : Hp} {p : P} {l c : List DV} {i n : Nat} {t : Nat} {x y : Operand} (ho : o.op = .store t x y) (hd : chkOpd d x = true) (hdv : chkOpd dv y = true) (hs : sizeIs Pr t n = true)
    (hk : ev d e = .fld p i) (hg : Tr.get? p e = some (.var l)) (hc : (ov dv e).cells = some c) (hn : c.length = n) (hle : i + c.length ≤ l.length) :
    MemOk Pr o e nx h (Tr.set p e (some (.var (l.take i ++ c ++ l.drop (i + c.length))))) (.tup []) nx h := by
  intro L N hi j pv a w R hnh
  have hx := R.reads d x hd
  rw [hk] at hx
  obtain ⟨b, hb, hp⟩ := hx
  have hcs := (R.reads.ov hdv).cells hc
  have hlen := hcs.length
  obtain ⟨b', hb', _, hlies, _⟩ := R.env p _ hg
  rw [hb] at hb'; cases hb'
  obtain ⟨R', F'⟩ := R.var_store hb hg hcs hle
  refine ⟨j, _, .skip, undef, ?_, .inr ⟨rfl, rfl⟩, R', F', VR.tup (l' := []) .nil⟩
  have hst := run_storeAt_ok (Pr := Pr) (w := w) (b := b) (o := i) (v := a.eval y) hs (by omega) hcs.ones (fun q hq => hlies.cell _ (by omega)) (fun q hq => hlies.free _ (by omega) (by omega))
  simp only [execOp, ho, hp, Sem.run_bind, hst, Result.andThen_ok, Sem.run_pure]

/-- What is made anew of values alone, wherever it comes to lie. -/
def NewOk (Pr : Program) (o : Oper) (e : Env) (l : List DV) (mk : P → DV) : Prop :=
  ∀ (L : P → Prop) (N hi : Nat) (j : J) (pv : P → Option Nat) (nx : P) (h : Hp) (a : Act) (w : World), Rel L N hi j pv e nx h a w → ∃ (cs : Array Value) (t : Nat) (v' : Value), VRs j l cs.toList ∧ (execOp a.eval o).run Pr w = .ok (.value v') (w.alloc (.cells cs t)) ∧
    ∀ (j' : J) (k : P), j' k = some (.at w.heap.size 0 cs.size) → XD j' pv (mk k) v'
theorem NewOk.mem {Pr : Program} {o : Oper} {e : Env} {l : List DV} {mk : P → DV} (W : NewOk Pr o e l mk) (nx : P) (h : Hp) : MemOk Pr o e nx h e (mk nx) nx.suc (Tr.set nx h (some (.cells l))) := by
  intro L N hi j pv a w R hnh
  rw [P.n_suc] at hnh
  obtain ⟨cs, t, v', hl, hrun, hx⟩ := W L N hi j pv nx h a w R
  have hlen := hl.length
  have hl' : VRs j l (cs.toList.take l.length) := by rw [hlen, List.take_length]; exact hl
  obtain ⟨R', F'⟩ := R.alloc (t := t) (by omega) hl' (by simp at hlen; omega)
  exact ⟨_, _, _, _, hrun, .inl rfl, R', F', hx _ nx (J.put_self _ _ _)⟩
/-- A new block, as an instruction makes it. -/
theorem memOk_new {Pr : Program} {o : Oper} {e : Env} {nx : P} {h : Hp} {l : List DV} {v : DV} (mk : Nat → Value) 
    (H : ∀ (L : P → Prop) (N hi : Nat) (j : J) (pv : P → Option Nat) (a : Act) (w : World), Rel L N hi j pv e nx h a w → ∃ (cs : Array Value) (t : Nat), VRs j l cs.toList ∧ (execOp a.eval o).run Pr w = .ok (.value (mk w.heap.size)) (w.alloc (.cells cs t)) ∧
      ∀ j' : J, j' nx = some (.at w.heap.size 0 cs.size) → XD j' pv v (mk w.heap.size)) : MemOk Pr o e nx h e v nx.suc (Tr.set nx h (some (.cells l))) := by
  intro L N hi j pv a w R hnh
  rw [P.n_suc] at hnh
  obtain ⟨cs, t, hl, hrun, hx⟩ := H L N hi j pv a w R
  have hlen := hl.length
  have hl' : VRs j l (cs.toList.take l.length) := by rw [hlen, List.take_length]; exact hl
  obtain ⟨R', F'⟩ := R.alloc (t := t) (by omega) hl' (by simp at hlen; omega)
  exact ⟨_, _, _, _, hrun, .inl rfl, R', F', hx _ (J.put_self _ _ _)⟩
theorem memOk_al {Pr : Program} {o : Oper} {e : Env} {nx : P} {h : Hp} {z : List DV} {t : Nat} {it : TypeInfo} {zv : Value} (ho : o.op = .alloc t) (hi : Pr.info? t = some it) (hz : it.zero = some zv) (hc : okCs z zv.cells.toList = true) :
    MemOk Pr o e nx h e (.ptr nx 0) nx.suc (Tr.set nx h (some (.cells z))) := by
  refine memOk_new (fun b => .pointer (some ⟨b, 0, none⟩)) ?_
  intro L N hi' j pv a w R
  refine ⟨zv.cells, t, okCs_sound j _ _ hc, ?_, fun j' hj' => ?_⟩
  · simp only [execOp, ho, Instr.alloc, Sem.run_bind, zeroValue, typeInfo, run_program, Result.andThen_ok, hi, Sem.run_pure, hz, newVar, newRow, run_newObj]
    rfl
  · exact VR.ptrA (s := 0) (o := 0) hj'
theorem memOk_bx {Pr : Program} {o : Oper} {e : Env} {nx : P} {h : Hp} {d : Opd} {c : List DV} {t : Nat} {x : Operand} (ho : o.op = .box t x) (hd : chkOpd d x = true) (hc : (ov d e).cells = some c) :
    MemOk Pr o e nx h e (.ptr nx 0) nx.suc (Tr.set nx h (some (.cells c))) := by
  refine memOk_new (fun b => .pointer (some ⟨b, 0, none⟩)) ?_
  intro L N hi' j pv a w R
  refine ⟨(a.eval x).cells, t, (R.reads.ov hd).cells hc, ?_, fun j' hj' => ?_⟩
  · simp only [execOp, ho, Instr.box, Sem.run_bind, newVar, newRow, run_newObj, Result.andThen_ok, Sem.run_pure]
    rfl
  · exact VR.ptrA (s := 0) (o := 0) hj'
theorem fills_length {e : Env} : ∀ (ps : List (Nat × Nat × Opd)) (z c : List DV), fills e ps z = some c → c.length = z.length
  | [], z, c, h => by simp only [fills, Option.some.injEq] at h; rw [h]
  | (off, size, o) :: ps, z, c, h => by
    simp only [fills] at h
    cases hl : (ov o e).cells with
    | none => simp [hl] at h
    | some l =>
      simp only [hl] at h
      by_cases hc : l.length = size ∧ off + l.length ≤ z.length
      · rw [if_pos hc] at h
        rw [fills_length ps _ c h]
        simp; omega
      · rw [if_neg hc] at h; cases h
def chkBsl (Pr : Program) (len sz : Nat) (z : List DV) (ps : List (Nat × Nat × Opd)) (t : Nat) (n : Nat) (qs : List (Nat × Operand)) : Bool :=
  match Pr.underlying t with
  | some (.slice el) => match Pr.info? el with
    | some ie => match ie.zero with
      | some zv => Nat.beq ie.size sz && !Nat.beq sz 0 && Nat.beq n len && !Nat.beq len 0 && Nat.ble (len * sz) 16777216 && okCs z ((Array.range (len * ie.size)).map (zv.cells[· % zv.cells.size]!)).toList && chkParts (fun i => some (i * ie.size, ie.size)) ps qs
      | none => false
    | none => false
  | _ => false
theorem newOk_bsl {Pr : Program} {o : Oper} {e : Env} {len sz : Nat} {z c : List DV} {ps : List (Nat × Nat × Opd)} {t n : Nat} {qs : Array (Nat × Operand)} (ho : o.op = .buildSlice t n qs)
    (hc : chkBsl Pr len sz z ps t n qs.toList = true) (hf : fills e ps z = some c) : NewOk Pr o e c (fun k => .sl k 0 len (some len) sz) := by
  unfold chkBsl at hc
  cases hu : Pr.underlying t with
  | none => simp [hu] at hc
  | some dt =>
    cases dt <;> simp only [hu, Bool.false_eq_true] at hc
    rename_i el
    cases hie : Pr.info? el with
    | none => simp [hie] at hc
    | some ie =>
      cases hz : ie.zero with
      | none => simp [hie, hz] at hc
      | some zv =>
        simp only [hie, hz, Bool.and_eq_true, Nat.beq_eq, Nat.ble_eq, Bool.not_eq_true'] at hc
        obtain ⟨⟨⟨⟨⟨⟨rfl, hs0⟩, rfl⟩, hn0⟩, hle⟩, hok⟩, hparts⟩ := hc
        have hs0' : ie.size ≠ 0 := fun h0 => by rw [h0] at hs0; exact absurd hs0 (by decide)
        intro L N hi' j pv nx h a w R
        have hm : (qs.map fun (i, x) => (i, a.eval x)).toList = qs.toList.map fun q => (q.1, a.eval q.2) := by simp
        obtain ⟨cs, hcs, hrel⟩ := fill_sim R.reads (fun i => some (i * ie.size, ie.size)) ps qs.toList z c _ hparts (okCs_sound j _ _ hok) hf
        refine ⟨cs, el, .slice (some ⟨w.heap.size, 0, none⟩) n n, hrel, ?_, fun j' k hj' => ?_⟩
        · have hso : ∀ w : World, (sizeOf el).run Pr w = .ok ie.size w := by intro w; simp [sizeOf, typeInfo, hie]
          have hzv : ∀ w : World, (zeroValue el).run Pr w = .ok zv w := by intro w; simp [zeroValue, typeInfo, hie, hz]
          have hbig : ¬ n * ie.size > 2 ^ 24 := by omega
          have hn0' : n ≠ 0 := fun h0 => by rw [h0] at hn0; exact absurd hn0 (by decide)
          have h0 : ¬ n * ie.size = 0 := Nat.mul_ne_zero hn0' hs0'
          simp only [execOp, ho, Sem.run_bind, run_buildSlice w t el n _ cs ie zv hu hie hz hbig h0 (by rw [hm]; exact hcs), Result.andThen_ok, Sem.run_pure]
        · have hlen := hrel.length
          have hzl := (okCs_sound j _ _ hok).length
          have hcz := fills_length ps z c hf
          have hsize : n * ie.size ≤ cs.size := by simp at hlen hzl; omega
          exact XD.of_VR (VR.slA hj' (fun _ => rfl) ⟨Nat.le_refl _, fun c hc => by cases hc; rfl⟩ (Nat.le_refl _) (by omega))

end Go.Proofs.YtnoekfkfinjfgaaGreatDoor.Dx

set_option autoImplicit false
set_option linter.unusedSectionVars false
set_option linter.unusedSimpArgs false
set_option linter.unusedVariables false
noncomputable section
namespace Go.Proofs.YtnoekfkfinjfgaaGreatDoor.Dx
open Go
variable [Rho]

section
variable {L : P → Prop} {N hi : Nat} {j : J} {pv : P → Option Nat} {e : Env} {nx : P} {h : Hp} {a : Act} {w : World}
theorem Rel.drew (R : Rel L N hi j pv e nx h a w) (n : Nat) : Rel L N hi j pv e nx h a { w with drawn := n } where
  fresh := R.fresh
  heap := fun k i hk hlt => HR.of_heap (w := w) (Ext.refl j) rfl (Nat.le_refl _) (fun _ _ => rfl) (fun _ _ _ _ h => h) (R.heap k i hk hlt)
  inj := R.inj
  inr := R.inr
  env := fun p v hv => ER.of_heap (w := w) (Ext.refl j) (Nat.le_refl _) (fun _ _ => rfl) (R.env p v hv)
  pvv := R.pvv
  pin := R.pin
  pfr := R.pfr
  pfo := R.pfo
  loc := R.loc
  size := R.size
  lt := R.lt
  lr := R.lr
  top := R.top
  maps := R.maps.keep fun _ _ _ h => h
  pfm := R.pfm
theorem Fr.drew (hi n : Nat) (j : J) (pv : P → Option Nat) (w : World) (d : Nat) : Fr hi n j pv w j pv { w with drawn := d } := { Fr.refl hi n j pv w with size := Nat.le_refl _, os := rfl, output := rfl, same := fun _ _ _ _ _ => rfl, froz := fun _ _ => rfl }

/-- IN-PLACE: what lies behind a slice's length is given to a new block. -/
theorem Rel.take_over (R : Rel L N hi j pv e nx h a w) (hnh : nx.n < hi) {k : P} (hlt : k.n < nx.n) {b s c : Nat} (hk : j k = some (.at b s c)) {old cl : List DV} {vs : List Value} {off : Nat}
    (hold : CellsAt j w b off old) (hv : VRs j cl vs) (ho : s ≤ off) (hle : off + old.length + cl.length ≤ c) :
    let j' := (j.put k .dead).put nx (.at b off c)
    let h' := Tr.set nx (Tr.set k h (some .dead)) (some (.cells (old ++ cl)))
    Rel L N hi j' pv e nx.suc h' a (w.setCells b (off + old.length) vs) ∧ Fr hi nx.n j pv w j' pv (w.setCells b (off + old.length) vs) := by
  intro j' h'
  have hnone : j nx = none := R.key_none hnh
  have hne : nx ≠ k := by rintro rfl; omega
  obtain ⟨hlies, l0, hg0, hle0, _⟩ := (R.heap k _ hk hlt : HR j h w k (.at b s c))
  have hj'n : j' nx = some (.at b off c) := J.put_self _ _ _
  have hj'k : j' k = some .dead := by show (j.put k .dead).put nx _ k = _; rw [J.put_ne _ hne.symm, J.put_self]
  have hj'o : ∀ q, q ≠ nx → q ≠ k → j' q = j q := fun q h1 h2 => by show (j.put k .dead).put nx _ q = _; rw [J.put_ne _ h1, J.put_ne _ h2]
  have hext : Ext j j' := fun q i hq => by
    by_cases h1 : q = nx
    · subst h1; rw [hnone] at hq; cases hq
    · by_cases h2 : q = k
      · subst h2; exact .inr hj'k
      · exact .inl (by rw [hj'o q h1 h2]; exact hq)
  have hlen := hv.length
  have hnb : ∀ x, x ≠ b → (w.setCells b (off + old.length) vs).heap[x]? = w.heap[x]? := fun x hx => setCells_other b vs _ w hx
  have hsz := setCells_size b vs (off + old.length) w
  refine ⟨?_, ?_⟩
  · constructor
    · intro q i hq
      rw [P.n_suc]
      by_cases h1 : q = nx
      · subst h1; exact .inl (by omega)
      · by_cases h2 : q = k
        · subst h2; exact .inl (by omega)
        · rw [hj'o q h1 h2] at hq
          rcases R.fresh q i hq with h | h
          · exact .inl (by omega)
          · exact .inr h
    · intro q i hq hql
      by_cases h1 : q = nx
      · subst h1
        rw [hj'n] at hq; cases hq
        have hl2 : Lies w b off c := ⟨hlies.lt, hlies.cell, fun i h1 h2 => hlies.free i (by omega) h2⟩
        refine ⟨hl2.setCells _ _ _, _, Tr.get_set_self _ _ _, by simp; omega, ?_⟩
        intro i v hi
        by_cases hio : i < old.length
        · rw [List.getElem?_append_left hio] at hi
          obtain ⟨v', hc, hr, h1⟩ := hold i v hi
          exact ⟨v', by rw [World.cell?_setCells_out]; exact hc; intro _ _; left; show off + i < off + old.length; omega, hr.mono hext, h1⟩
        · rw [List.getElem?_append_right (by omega)] at hi
          obtain ⟨v', hv', hr, h1⟩ := hv.get _ v hi
          have hlt2 : i - old.length < vs.length := (List.getElem?_eq_some_iff.1 hv').1
          refine ⟨v', ?_, hr.mono hext, h1⟩
          have := World.cell?_setCells_in b vs (off + old.length) w (fun q hq => hlies.cell _ (by omega)) (i - old.length) hlt2
          rw [show off + i = off + old.length + (i - old.length) by omega, this, ← hv', List.getElem?_eq_getElem hlt2]
      · by_cases h2 : q = k
        · subst h2; rw [hj'k] at hq; cases hq
          show Tr.get? q h' = some .dead
          show Tr.get? q (Tr.set nx (Tr.set q h (some .dead)) _) = _
          rw [Tr.get_set_ne h1, Tr.get_set_self]
        · rw [hj'o q h1 h2] at hq
          have hql' : q.n < nx.n := by rw [P.n_suc] at hql; have : q.n ≠ nx.n := fun h => h1 (P.n_inj h); omega
          refine HR.of_heap hext ?_ (by omega) ?_ (fun r es n _ => setCells_map b vs _ w r es n) (R.heap q i hq hql')
          · show Tr.get? q (Tr.set nx (Tr.set k h (some .dead)) _) = _
            rw [Tr.get_set_ne h1, Tr.get_set_ne h2]
          · intro x hx
            refine hnb x ?_
            rintro rfl
            rcases hx with ⟨s', c', rfl⟩ | ⟨s', rfl⟩
            · exact h2 (R.inj _ _ _ _ _ _ _ hq hk)
            · exact R.inr _ _ _ _ _ _ hk hq
    · intro q q' b' s1 c1 s2 c2 hq hq'
      by_cases h1 : q = nx <;> by_cases h2 : q' = nx
      · rw [h1, h2]
      · subst h1; rw [hj'n] at hq; cases hq
        by_cases h3 : q' = k
        · subst h3; rw [hj'k] at hq'; cases hq'
        · rw [hj'o q' h2 h3] at hq'; exact absurd (R.inj _ _ _ _ _ _ _ hq' hk) h3
      · subst h2; rw [hj'n] at hq'; cases hq'
        by_cases h3 : q = k
        · subst h3; rw [hj'k] at hq; cases hq
        · rw [hj'o q h1 h3] at hq; exact absurd (R.inj _ _ _ _ _ _ _ hq hk) h3
      · by_cases h3 : q = k
        · subst h3; rw [hj'k] at hq; cases hq
        · by_cases h4 : q' = k
          · subst h4; rw [hj'k] at hq'; cases hq'
          · rw [hj'o q h1 h3] at hq; rw [hj'o q' h2 h4] at hq'; exact R.inj _ _ _ _ _ _ _ hq hq'
    · intro q q' b' s1 c1 s2 hq hq'
      by_cases h2 : q' = nx
      · subst h2; rw [hj'n] at hq'; cases hq'
      · by_cases h4 : q' = k
        · subst h4; rw [hj'k] at hq'; cases hq'
        · rw [hj'o q' h2 h4] at hq'
          by_cases h1 : q = nx
          · subst h1; rw [hj'n] at hq; cases hq; exact R.inr _ _ _ _ _ _ hk hq'
          · by_cases h3 : q = k
            · subst h3; rw [hj'k] at hq; cases hq
            · rw [hj'o q h1 h3] at hq; exact R.inr _ _ _ _ _ _ hq hq'
    · intro p v hpv
      refine ER.of_heap hext (by omega) ?_ (R.env p v hpv)
      intro x hx
      exact hnb x (by rintro rfl; exact R.pfr p _ hx _ _ _ hk)
    · exact R.pvv
    · exact R.pin
    · intro p b' hb' q s1 c1 hq
      by_cases h1 : q = nx
      · subst h1; rw [hj'n] at hq; cases hq; exact R.pfr p _ hb' _ _ _ hk
      · by_cases h3 : q = k
        · subst h3; rw [hj'k] at hq; cases hq
        · rw [hj'o q h1 h3] at hq; exact R.pfr p _ hb' _ _ _ hq
    · intro p b' hb' q s1 hq
      by_cases h1 : q = nx
      · subst h1; rw [hj'n] at hq; cases hq
      · by_cases h3 : q = k
        · subst h3; rw [hj'k] at hq; cases hq
        · rw [hj'o q h1 h3] at hq; exact R.pfo p _ hb' _ _ hq
    · exact R.loc
    · exact R.size
    · intro q b' s1 c1 hq
      rw [hsz]
      by_cases h1 : q = nx
      · subst h1; rw [hj'n] at hq; cases hq; exact hlies.lt
      · by_cases h3 : q = k
        · subst h3; rw [hj'k] at hq; cases hq
        · rw [hj'o q h1 h3] at hq; exact R.lt _ _ _ _ hq
    · intro q b' s1 hq
      rw [hsz]
      by_cases h1 : q = nx
      · subst h1; rw [hj'n] at hq; cases hq
      · by_cases h3 : q = k
        · subst h3; rw [hj'k] at hq; cases hq
        · rw [hj'o q h1 h3] at hq; exact R.lr _ _ _ hq
    · intro q hq
      rw [P.n_suc] at hq
      show Tr.get? q (Tr.set nx (Tr.set k h (some .dead)) _) = _
      rw [Tr.get_set_ne (by rintro rfl; omega), Tr.get_set_ne (by rintro rfl; omega)]
      exact R.top q (by omega)
    · have h1 := (R.maps.keep (setCells_map b vs (off + old.length) w)).put k .dead (by intro r h; cases h) (by intro b s h; cases h) (by intro b' s' h; rw [hk] at h; cases h) (by intro b s c h; cases h)
      exact h1.put nx _ (by intro r h; cases h) (by intro b s h; cases h) (by intro b' s' h; rw [J.put_ne _ hne] at h; rw [hnone] at h; cases h) (by
        intro b' s' c' h q hq; cases h
        by_cases hqk : q = k
        · subst hqk; rw [J.put_self] at hq; cases hq
        · rw [J.put_ne _ hqk] at hq; exact R.maps.dis _ _ _ _ _ hk hq)
    · intro p b' hb' q hq
      by_cases h1 : q = nx
      · subst h1; rw [hj'n] at hq; cases hq
      · by_cases h3 : q = k
        · subst h3; rw [hj'k] at hq; cases hq
        · rw [hj'o q h1 h3] at hq; exact R.pfm p _ hb' _ hq
  · constructor
    · omega
    · exact (setCells_os b vs _ w).1
    · exact (setCells_os b vs _ w).2
    · intro x hx hjx _ _
      refine hnb x ?_
      rintro rfl
      have := hjx _ _ _ hk; omega
    · exact hext
    · intro q hq; exact hj'o q (by rintro rfl; omega) (by rintro rfl; omega)
    · intro q h1 h2
      by_cases h3 : q = nx
      · subst h3; exact Nat.le_refl _
      · by_cases h4 : q = k
        · subst h4; rw [hk] at h1; cases h1
        · rw [hj'o q h3 h4] at h2; exact absurd h1 h2
    · intro q x s1 c1 hq hql
      by_cases h3 : q = nx
      · subst h3; rw [hj'n] at hq; cases hq; exact .inl ⟨k, s, c, hk, by omega⟩
      · by_cases h4 : q = k
        · subst h4; rw [hj'k] at hq; cases hq
        · rw [hj'o q h3 h4] at hq; exact .inl ⟨q, s1, c1, hq, hql⟩
    · intro q x s1 hq
      by_cases h3 : q = nx
      · subst h3; rw [hj'n] at hq; cases hq
      · by_cases h4 : q = k
        · subst h4; rw [hj'k] at hq; cases hq
        · rw [hj'o q h3 h4] at hq; exact .inl hq
    · intro p x hx; exact .inl hx
    · intro ad _; exact World.frozen?_setCells _ _ _ _ _
    · intro q x hq hql
      by_cases h3 : q = nx
      · subst h3; rw [hj'n] at hq; cases hq
      · by_cases h4 : q = k
        · subst h4; rw [hj'k] at hq; cases hq
        · rw [hj'o q h3 h4] at hq; exact .inl ⟨q, hq, hql⟩
end

/-! ### Go's append -/

def chkApp (Pr : Program) (sz bt t t' : Nat) : Bool :=
  match Pr.underlying t, Pr.underlying t' with
  | some (.slice el), some (.slice _) => match Pr.info? el with
    | some it => match it.zero with
      | some zv => Nat.beq it.size sz && !Nat.beq sz 0 && Nat.beq it.bytes bt && !Nat.beq bt 0 && Nat.ble bt 1048576 && Nat.beq zv.cells.size sz
      | none => false
    | none => false
  | _, _ => false
structure AppOk (Pr : Program) (sz bt t t' el : Nat) (it : TypeInfo) (zv : Value) : Prop where
  hu : Pr.underlying t = some (.slice el)
  hu' : ∃ el', Pr.underlying t' = some (.slice el')
  hi : Pr.info? el = some it
  hz : it.zero = some zv
  hs : it.size = sz
  hs0 : sz ≠ 0
  hb : it.bytes = bt
  hb0 : bt ≠ 0
  hb1 : bt ≤ 1048576
  hzs : zv.cells.size = sz
theorem chkApp_spec {Pr : Program} {sz bt t t' : Nat} (h : chkApp Pr sz bt t t' = true) : ∃ el it zv, AppOk Pr sz bt t t' el it zv := by
  unfold chkApp at h
  cases hu : Pr.underlying t with
  | none => simp [hu] at h
  | some d =>
    cases hu' : Pr.underlying t' with
    | none => cases d <;> simp [hu, hu'] at h
    | some d' =>
      cases d <;> cases d' <;> simp only [hu, hu', Bool.false_eq_true] at h
      rename_i el el'
      cases hi : Pr.info? el with
      | none => simp [hi] at h
      | some it =>
        cases hz : it.zero with
        | none => simp [hi, hz] at h
        | some zv =>
          simp only [hi, hz, Bool.and_eq_true, Nat.beq_eq, Nat.ble_eq, Bool.not_eq_true'] at h
          obtain ⟨⟨⟨⟨⟨h1, h2⟩, h3⟩, h4⟩, h5⟩, h6⟩ := h
          exact ⟨el, it, zv, hu, ⟨el', hu'⟩, hi, hz, h1, fun h0 => by rw [h0] at h2; exact absurd h2 (by decide), h3, fun h0 => by rw [h0] at h4; exact absurd h4 (by decide), h5, h6⟩

theorem growBy_le (newLen : Nat) : ∀ (r c : Nat), c ≤ newLen + newLen + 768 → Builtin.growBy newLen r c ≤ newLen + newLen + 768
  | 0, c, h => h
  | r + 1, c, h => by
    simp only [Builtin.growBy]
    split
    · exact h
    · exact growBy_le newLen r _ (by omega)
theorem next_le (need cap : Nat) (h : cap < need) : Builtin.nextslicecap need cap ≤ need + need + 768 := by
  unfold Builtin.nextslicecap
  split
  · omega
  · split
    · omega
    · exact growBy_le _ _ _ (by omega)

theorem run_firstCells {Pr : Program} {w : World} {size n : Nat} {b off : Nat} {ln cap : Nat} {vs : List Value} (hn : vs.length = n * size) (hc : ∀ i v, vs[i]? = some v → w.cell? ⟨b, off + i, none⟩ = some v) :
    (Builtin.firstCells size n (.slice (some ⟨b, off, none⟩) ln cap)).run Pr w = .ok vs.toArray w := by
  have := run_loadCells_list (P := Pr) w ⟨b, off, none⟩ vs (fun q v hv => by rw [Addr.add_mid]; exact hc q v hv)
  rw [hn] at this
  exact this

section
variable {Pr : Program} {sz bt t t' el : Nat} {it : TypeInfo} {zv : Value}

/-- There is room. -/
theorem run_append_in (A : AppOk Pr sz bt t t' el it zv) {w : World} {b off sLen sCap n : Nat} {x : Value} {news : List Value} {ty : Nat} (hx : ∀ W : World, (Builtin.lenOf x).run Pr W = .ok n W) (hnew : (Builtin.firstCells sz n x).run Pr w = .ok news.toArray w)
    (hroom : sLen + n ≤ sCap) (h1 : ∀ u ∈ news, u.oneCell' = true) (hc : ∀ i, i < news.length → (w.cell? ⟨b, off + sLen * sz + i, none⟩).isSome = true) (hf : ∀ i, i < news.length → w.frozen? ⟨b, off + sLen * sz + i, none⟩ = false) :
    (Builtin.append_ #[t, t'] ty #[.slice (some ⟨b, off, none⟩) sLen sCap, x]).run Pr w = .ok (.slice (some ⟨b, off, none⟩) (sLen + n) sCap) (w.setCells b (off + sLen * sz) news) := by
  obtain ⟨el', hu'⟩ := A.hu'
  have hso : ∀ W : World, (sizeOf el).run Pr W = .ok sz W := by intro W; simp [sizeOf, typeInfo, A.hi, A.hs]
  have hst := run_storeCells_cells (P := Pr) b (off + sLen * sz) news 0 w (fun q hq => by simpa using hc q hq) (fun q hq => by simpa using hf q hq) h1
  rw [Nat.add_zero] at hst
  simp only [Builtin.append_, Sem.run_bind, run_underlying A.hu, Result.andThen_ok, hso, List.getElem?_toArray, List.getElem?_cons_zero, List.getElem?_cons_succ, run_underlying hu', Sem.run_pure, hx]
  simp [hroom, hnew, Addr.add_mid, hst, hx]

/-- There is none: a new row. -/
theorem run_append_out (A : AppOk Pr sz bt t t' el it zv) {w : World} {base : Option Addr} {sLen sCap n : Nat} {x : Value} {olds news : List Value} {ty : Nat} (hx : ∀ W : World, (Builtin.lenOf x).run Pr W = .ok n W)
    (hold : ∀ d : Nat, (Builtin.firstCells sz sLen (.slice base sLen sCap)).run Pr { w with drawn := d } = .ok olds.toArray { w with drawn := d })
    (hnew : ∀ d : Nat, (Builtin.firstCells sz n x).run Pr { w with drawn := d } = .ok news.toArray { w with drawn := d })
    (hroom : sCap < sLen + n) (hbig : (sLen + n) * bt ≤ 35184372088832) :
    ∃ newCap d, sLen + n ≤ newCap ∧ (Builtin.append_ #[t, t'] ty #[.slice base sLen sCap, x]).run Pr w = .ok (.slice (some ⟨w.heap.size, 0, none⟩) (sLen + n) newCap)
      (({ w with drawn := d } : World).alloc (.cells (olds.toArray ++ news.toArray ++ Builtin.zeroCells zv.cells (newCap - (sLen + n))) el)) := by
  obtain ⟨el', hu'⟩ := A.hu'
  have hso : ∀ W : World, (sizeOf el).run Pr W = .ok sz W := by intro W; simp [sizeOf, typeInfo, A.hi, A.hs]
  have hti : ∀ W : World, (typeInfo el).run Pr W = .ok it W := by intro W; simp [typeInfo, A.hi]
  have hzv : ∀ W : World, (zeroValue el).run Pr W = .ok zv W := by intro W; simp [zeroValue, typeInfo, A.hi, A.hz]
  have hnl := next_le (sLen + n) sCap hroom
  have hmul : Builtin.nextslicecap (sLen + n) sCap * bt ≤ 2 ^ 48 := by
    calc Builtin.nextslicecap (sLen + n) sCap * bt ≤ (sLen + n + (sLen + n) + 768) * bt := Nat.mul_le_mul_right _ hnl
      _ = (sLen + n) * bt + (sLen + n) * bt + 768 * bt := by rw [Nat.add_mul, Nat.add_mul]
      _ ≤ 2 ^ 48 := by have := A.hb1; omega
  refine ⟨(Question.appendCap (sLen + n) sCap el).cut (w.tape w.drawn (.appendCap (sLen + n) sCap el)), w.drawn + 1, ?_, ?_⟩
  · simp only [Question.cut]; omega
  · have hno : ¬ sLen + n ≤ sCap := by omega
    have hng : ¬ (Builtin.nextslicecap (sLen + n) sCap * it.bytes > 2 ^ 48) := by rw [A.hb]; omega
    simp only [Builtin.append_, Sem.run_bind, run_underlying A.hu, Result.andThen_ok, hso, List.getElem?_toArray, List.getElem?_cons_zero, List.getElem?_cons_succ, run_underlying hu', Sem.run_pure, hx]
    simp only [Bool.false_eq_true, if_false, Sem.run_bind, hx, Result.andThen_ok, if_neg hno, hti, A.hb, A.hb0, false_or, and_false, Sem.run_pure, Sem.run_ite]
    rw [if_neg (by omega)]
    have hch : (choose (.appendCap (sLen + n) sCap el)).run Pr w = .ok ((Question.appendCap (sLen + n) sCap el).cut (w.tape w.drawn (.appendCap (sLen + n) sCap el))) { w with drawn := w.drawn + 1 } := by
      rw [run_choose]; rfl
    simp only [hch, Result.andThen_ok, run_askRoom, hold, Bool.not_false, if_true, hnew, hzv]
    rfl

/-- Noughts behind nothing. -/
theorem run_append_zeros {el : Nat} {it : TypeInfo} {zv : Value} (hu : Pr.underlying t = some (.slice el)) {ik : IntKind} (hu' : Pr.underlying t' = some (.int ik)) (hi : Pr.info? el = some it) (hz : it.zero = some zv) (hs0 : it.size ≠ 0) (hb0 : it.bytes ≠ 0) {w : World} {n : Nat} {ty : Nat} {k : IntKind}
    (hn : n ≠ 0) (hbig : n * it.bytes ≤ 1073741824) :
    ∃ newCap d, n ≤ newCap ∧ (Builtin.append_ #[t, t'] ty #[.slice none 0 0, .int k n]).run Pr w = .ok (.slice (some ⟨w.heap.size, 0, none⟩) n newCap)
      (({ w with drawn := d } : World).alloc (.cells (#[] ++ Builtin.zeroCells zv.cells n ++ Builtin.zeroCells zv.cells (newCap - n)) el)) := by
  have hso : ∀ W : World, (sizeOf el).run Pr W = .ok it.size W := by intro W; simp [sizeOf, typeInfo, hi]
  have hti : ∀ W : World, (typeInfo el).run Pr W = .ok it W := by intro W; simp [typeInfo, hi]
  have hzv : ∀ W : World, (zeroValue el).run Pr W = .ok zv W := by intro W; simp [zeroValue, typeInfo, hi, hz]
  have hn1 : n ≤ 1073741824 := by
    have h1 : n * 1 ≤ n * it.bytes := Nat.mul_le_mul_left n (by omega)
    omega
  have hw : IntKind.i64.wrap (n : Int) = n := wrap_of_fits (by show Nat.ble n _ = true; rw [Nat.ble_eq]; simp only [top]; omega)
  refine ⟨(Question.appendCap (0 + n) 0 el).cut (w.tape w.drawn (.appendCap (0 + n) 0 el)), w.drawn + 1, ?_, ?_⟩
  · simp only [Question.cut]; omega
  · have hch : (choose (.appendCap (0 + n) 0 el)).run Pr w = .ok ((Question.appendCap (0 + n) 0 el).cut (w.tape w.drawn (.appendCap (0 + n) 0 el))) { w with drawn := w.drawn + 1 } := by
      rw [run_choose]; rfl
    have hl0 : ¬ ((n : Int) < 0) := by omega
    have hl1 : ¬ ((n : Int) * (it.bytes : Int) > 2 ^ 48) := by
      have : (n : Int) * (it.bytes : Int) = ((n * it.bytes : Nat) : Int) := by simp
      rw [this]; omega
    have hno : ¬ (0 + n ≤ 0) := by omega
    have hmx : ¬ (((0 + n : Nat) : Int) > IntKind.i64.max) := by simp only [IntKind.max, IntKind.signed, IntKind.bits]; simp; omega
    have hnx : Builtin.nextslicecap (0 + n) 0 = n := by unfold Builtin.nextslicecap; rw [if_pos (by omega)]; omega
    have hng : ¬ (Builtin.nextslicecap (0 + n) 0 * it.bytes > 2 ^ 48) := by rw [hnx]; omega
    have hnz : ¬ (n * it.size = 0) := Nat.mul_ne_zero hn hs0
    simp only [Builtin.append_, Sem.run_bind, run_underlying hu, Result.andThen_ok, hso, List.getElem?_toArray, List.getElem?_cons_zero, List.getElem?_cons_succ, run_underlying hu', Sem.run_pure]
    simp only [if_true, Sem.run_bind, asInt, asIntOf, Sem.run_pure, Result.andThen_ok, hw, Sem.run_ite, if_neg hl0, hti, if_neg hl1, Int.toNat_natCast, if_neg hno, if_neg hng, Bool.not_true, Bool.false_eq_true, if_false, hch, run_askRoom, Builtin.firstCells, hzv, if_neg hnz]
    rw [if_neg (fun h => hmx h.1)]
    simp only [Nat.zero_add]
    rfl
end

end Go.Proofs.YtnoekfkfinjfgaaGreatDoor.Dx
