/- The small machine's slices that are made and grown do what Go's do. No statement of this seat is proved here. -/
import Derived.Test.YthdlkpmhjbaplaaDxX
set_option autoImplicit false
set_option linter.unusedSimpArgs false
set_option linter.unusedVariables false
noncomputable section
namespace Go.Proofs.Ythdlkpmhjbaplaa.Dx
open Go

section
variable {L : P → Prop} {N hi : Nat} {j : J} {pv : P → Option Nat} {e : Env} {nx : P} {h : Hp} {a : Act} {w : World}
theorem Rel.drew (R : Rel L N hi j pv e nx h a w) (n : Nat) : Rel L N hi j pv e nx h a { w with drawn := n } where
  fresh := R.fresh
  heap := fun k i hk hlt => HR.of_heap (w := w) (Ext.refl j) rfl (Nat.le_refl _) (fun _ _ => rfl) (R.heap k i hk hlt)
  inj := R.inj
  inr := R.inr
  env := fun p v hv => ER.of_heap (w := w) (Ext.refl j) (Nat.le_refl _) (fun _ _ => rfl) (R.env p v hv)
  pvv := R.pvv
  pin := R.pin
  pfr := R.pfr
  pfo := R.pfo
  loc := R.loc
  size := R.size
  lt := R.lt
  lr := R.lr
  top := R.top
theorem Fr.drew (hi n : Nat) (j : J) (pv : P → Option Nat) (w : World) (d : Nat) : Fr hi n j pv w j pv { w with drawn := d } := { Fr.refl hi n j pv w with size := Nat.le_refl _, os := rfl, output := rfl, same := fun _ _ _ _ => rfl, froz := fun _ => rfl }

/-- IN-PLACE: what lies behind a slice's length is given to a new block. -/
theorem Rel.take_over (R : Rel L N hi j pv e nx h a w) (hnh : nx.n < hi) {k : P} (hlt : k.n < nx.n) {b s c : Nat} (hk : j k = some (.at b s c)) {old cl : List DV} {vs : List Value} {off : Nat}
    (hold : CellsAt j w b off old) (hv : VRs j cl vs) (ho : s ≤ off) (hle : off + old.length + cl.length ≤ c) :
    let j' := (j.put k .dead).put nx (.at b off c)
    let h' := Tr.set nx (Tr.set k h (some .dead)) (some (.cells (old ++ cl)))
    Rel L N hi j' pv e nx.suc h' a (w.setCells b (off + old.length) vs) ∧ Fr hi nx.n j pv w j' pv (w.setCells b (off + old.length) vs) := by
  intro j' h'
  have hnone : j nx = none := R.key_none hnh
  have hne : nx ≠ k := by rintro rfl; omega
  obtain ⟨hlies, l0, hg0, hle0, _⟩ := (R.heap k _ hk hlt : HR j h w k (.at b s c))
  have hj'n : j' nx = some (.at b off c) := J.put_self _ _ _
  have hj'k : j' k = some .dead := by show (j.put k .dead).put nx _ k = _; rw [J.put_ne _ hne.symm, J.put_self]
  have hj'o : ∀ q, q ≠ nx → q ≠ k → j' q = j q := fun q h1 h2 => by show (j.put k .dead).put nx _ q = _; rw [J.put_ne _ h1, J.put_ne _ h2]
  have hext : Ext j j' := fun q i hq => by
    by_cases h1 : q = nx
    · subst h1; rw [hnone] at hq; cases hq
    · by_cases h2 : q = k
      · subst h2; exact .inr hj'k
      · exact .inl (by rw [hj'o q h1 h2]; exact hq)
  have hlen := hv.length
  have hnb : ∀ x, x ≠ b → (w.setCells b (off + old.length) vs).heap[x]? = w.heap[x]? := fun x hx => setCells_other b vs _ w hx
  have hsz := setCells_size b vs (off + old.length) w
  refine ⟨?_, ?_⟩
  · constructor
    · intro q i hq
      rw [P.n_suc]
      by_cases h1 : q = nx
      · subst h1; exact .inl (by omega)
      · by_cases h2 : q = k
        · subst h2; exact .inl (by omega)
        · rw [hj'o q h1 h2] at hq
          rcases R.fresh q i hq with h | h
          · exact .inl (by omega)
          · exact .inr h
    · intro q i hq hql
      by_cases h1 : q = nx
      · subst h1
        rw [hj'n] at hq; cases hq
        have hl2 : Lies w b off c := ⟨hlies.lt, hlies.cell, fun i h1 h2 => hlies.free i (by omega) h2⟩
        refine ⟨hl2.setCells _ _ _, _, Tr.get_set_self _ _ _, by simp; omega, ?_⟩
        intro i v hi
        by_cases hio : i < old.length
        · rw [List.getElem?_append_left hio] at hi
          obtain ⟨v', hc, hr, h1⟩ := hold i v hi
          exact ⟨v', by rw [World.cell?_setCells_out]; exact hc; intro _ _; left; show off + i < off + old.length; omega, hr.mono hext, h1⟩
        · rw [List.getElem?_append_right (by omega)] at hi
          obtain ⟨v', hv', hr, h1⟩ := hv.get _ v hi
          have hlt2 : i - old.length < vs.length := (List.getElem?_eq_some_iff.1 hv').1
          refine ⟨v', ?_, hr.mono hext, h1⟩
          have := World.cell?_setCells_in b vs (off + old.length) w (fun q hq => hlies.cell _ (by omega)) (i - old.length) hlt2
          rw [show off + i = off + old.length + (i - old.length) by omega, this, ← hv', List.getElem?_eq_getElem hlt2]
      · by_cases h2 : q = k
        · subst h2; rw [hj'k] at hq; cases hq
          show Tr.get? q h' = some .dead
          show Tr.get? q (Tr.set nx (Tr.set q h (some .dead)) _) = _
          rw [Tr.get_set_ne h1, Tr.get_set_self]
        · rw [hj'o q h1 h2] at hq
          have hql' : q.n < nx.n := by rw [P.n_suc] at hql; have : q.n ≠ nx.n := fun h => h1 (P.n_inj h); omega
          refine HR.of_heap hext ?_ (by omega) ?_ (R.heap q i hq hql')
          · show Tr.get? q (Tr.set nx (Tr.set k h (some .dead)) _) = _
            rw [Tr.get_set_ne h1, Tr.get_set_ne h2]
          · intro x hx
            refine hnb x ?_
            rintro rfl
            rcases hx with ⟨s', c', rfl⟩ | ⟨s', rfl⟩
            · exact h2 (R.inj _ _ _ _ _ _ _ hq hk)
            · exact R.inr _ _ _ _ _ _ hk hq
    · intro q q' b' s1 c1 s2 c2 hq hq'
      by_cases h1 : q = nx <;> by_cases h2 : q' = nx
      · rw [h1, h2]
      · subst h1; rw [hj'n] at hq; cases hq
        by_cases h3 : q' = k
        · subst h3; rw [hj'k] at hq'; cases hq'
        · rw [hj'o q' h2 h3] at hq'; exact absurd (R.inj _ _ _ _ _ _ _ hq' hk) h3
      · subst h2; rw [hj'n] at hq'; cases hq'
        by_cases h3 : q = k
        · subst h3; rw [hj'k] at hq; cases hq
        · rw [hj'o q h1 h3] at hq; exact absurd (R.inj _ _ _ _ _ _ _ hq hk) h3
      · by_cases h3 : q = k
        · subst h3; rw [hj'k] at hq; cases hq
        · by_cases h4 : q' = k
          · subst h4; rw [hj'k] at hq'; cases hq'
          · rw [hj'o q h1 h3] at hq; rw [hj'o q' h2 h4] at hq'; exact R.inj _ _ _ _ _ _ _ hq hq'
    · intro q q' b' s1 c1 s2 hq hq'
      by_cases h2 : q' = nx
      · subst h2; rw [hj'n] at hq'; cases hq'
      · by_cases h4 : q' = k
        · subst h4; rw [hj'k] at hq'; cases hq'
        · rw [hj'o q' h2 h4] at hq'
          by_cases h1 : q = nx
          · subst h1; rw [hj'n] at hq; cases hq; exact R.inr _ _ _ _ _ _ hk hq'
          · by_cases h3 : q = k
            · subst h3; rw [hj'k] at hq; cases hq
            · rw [hj'o q h1 h3] at hq; exact R.inr _ _ _ _ _ _ hq hq'
    · intro p v hpv
      refine ER.of_heap hext (by omega) ?_ (R.env p v hpv)
      intro x hx
      exact hnb x (by rintro rfl; exact R.pfr p _ hx _ _ _ hk)
    · exact R.pvv
    · exact R.pin
    · intro p b' hb' q s1 c1 hq
      by_cases h1 : q = nx
      · subst h1; rw [hj'n] at hq; cases hq; exact R.pfr p _ hb' _ _ _ hk
      · by_cases h3 : q = k
        · subst h3; rw [hj'k] at hq; cases hq
        · rw [hj'o q h1 h3] at hq; exact R.pfr p _ hb' _ _ _ hq
    · intro p b' hb' q s1 hq
      by_cases h1 : q = nx
      · subst h1; rw [hj'n] at hq; cases hq
      · by_cases h3 : q = k
        · subst h3; rw [hj'k] at hq; cases hq
        · rw [hj'o q h1 h3] at hq; exact R.pfo p _ hb' _ _ hq
    · exact R.loc
    · exact R.size
    · intro q b' s1 c1 hq
      rw [hsz]
      by_cases h1 : q = nx
      · subst h1; rw [hj'n] at hq; cases hq; exact hlies.lt
      · by_cases h3 : q = k
        · subst h3; rw [hj'k] at hq; cases hq
        · rw [hj'o q h1 h3] at hq; exact R.lt _ _ _ _ hq
    · intro q b' s1 hq
      rw [hsz]
      by_cases h1 : q = nx
      · subst h1; rw [hj'n] at hq; cases hq
      · by_cases h3 : q = k
        · subst h3; rw [hj'k] at hq; cases hq
        · rw [hj'o q h1 h3] at hq; exact R.lr _ _ _ hq
    · intro q hq
      rw [P.n_suc] at hq
      show Tr.get? q (Tr.set nx (Tr.set k h (some .dead)) _) = _
      rw [Tr.get_set_ne (by rintro rfl; omega), Tr.get_set_ne (by rintro rfl; omega)]
      exact R.top q (by omega)
  · constructor
    · omega
    · exact (setCells_os b vs _ w).1
    · exact (setCells_os b vs _ w).2
    · intro x hx hjx _
      refine hnb x ?_
      rintro rfl
      have := hjx _ _ _ hk; omega
    · exact hext
    · intro q hq; exact hj'o q (by rintro rfl; omega) (by rintro rfl; omega)
    · intro q h1 h2
      by_cases h3 : q = nx
      · subst h3; exact Nat.le_refl _
      · by_cases h4 : q = k
        · subst h4; rw [hk] at h1; cases h1
        · rw [hj'o q h3 h4] at h2; exact absurd h1 h2
    · intro q x s1 c1 hq hql
      by_cases h3 : q = nx
      · subst h3; rw [hj'n] at hq; cases hq; exact .inl ⟨k, s, c, hk, by omega⟩
      · by_cases h4 : q = k
        · subst h4; rw [hj'k] at hq; cases hq
        · rw [hj'o q h3 h4] at hq; exact .inl ⟨q, s1, c1, hq, hql⟩
    · intro q x s1 hq
      by_cases h3 : q = nx
      · subst h3; rw [hj'n] at hq; cases hq
      · by_cases h4 : q = k
        · subst h4; rw [hj'k] at hq; cases hq
        · rw [hj'o q h3 h4] at hq; exact hq
    · intro p x hx; exact .inl hx
    · intro ad; exact World.frozen?_setCells _ _ _ _ _
end

/-! ### Go's append -/

def chkApp (Pr : Program) (sz bt t t' : Nat) : Bool :=
  match Pr.underlying t, Pr.underlying t' with
  | some (.slice el), some (.slice _) => match Pr.info? el with
    | some it => match it.zero with
      | some zv => Nat.beq it.size sz && !Nat.beq sz 0 && Nat.beq it.bytes bt && !Nat.beq bt 0 && Nat.ble bt 1048576 && Nat.beq zv.cells.size sz
      | none => false
    | none => false
  | _, _ => false
structure AppOk (Pr : Program) (sz bt t t' el : Nat) (it : TypeInfo) (zv : Value) : Prop where
  hu : Pr.underlying t = some (.slice el)
  hu' : ∃ el', Pr.underlying t' = some (.slice el')
  hi : Pr.info? el = some it
  hz : it.zero = some zv
  hs : it.size = sz
  hs0 : sz ≠ 0
  hb : it.bytes = bt
  hb0 : bt ≠ 0
  hb1 : bt ≤ 1048576
  hzs : zv.cells.size = sz
theorem chkApp_spec {Pr : Program} {sz bt t t' : Nat} (h : chkApp Pr sz bt t t' = true) : ∃ el it zv, AppOk Pr sz bt t t' el it zv := by
  unfold chkApp at h
  cases hu : Pr.underlying t with
  | none => simp [hu] at h
  | some d =>
    cases hu' : Pr.underlying t' with
    | none => cases d <;> simp [hu, hu'] at h
    | some d' =>
      cases d <;> cases d' <;> simp only [hu, hu', Bool.false_eq_true] at h
      rename_i el el'
      cases hi : Pr.info? el with
      | none => simp [hi] at h
      | some it =>
        cases hz : it.zero with
        | none => simp [hi, hz] at h
        | some zv =>
          simp only [hi, hz, Bool.and_eq_true, Nat.beq_eq, Nat.ble_eq, Bool.not_eq_true'] at h
          obtain ⟨⟨⟨⟨⟨h1, h2⟩, h3⟩, h4⟩, h5⟩, h6⟩ := h
          exact ⟨el, it, zv, hu, ⟨el', hu'⟩, hi, hz, h1, fun h0 => by rw [h0] at h2; exact absurd h2 (by decide), h3, fun h0 => by rw [h0] at h4; exact absurd h4 (by decide), h5, h6⟩

theorem growBy_le (newLen : Nat) : ∀ (r c : Nat), c ≤ newLen + newLen + 768 → Builtin.growBy newLen r c ≤ newLen + newLen + 768
  | 0, c, h => h
  | r + 1, c, h => by
    simp only [Builtin.growBy]
    split
    · exact h
    · exact growBy_le newLen r _ (by omega)
theorem next_le (need cap : Nat) (h : cap < need) : Builtin.nextslicecap need cap ≤ need + need + 768 := by
  unfold Builtin.nextslicecap
  split
  · omega
  · split
    · omega
    · exact growBy_le _ _ _ (by omega)

theorem run_firstCells {Pr : Program} {w : World} {size n : Nat} {b off : Nat} {ln cap : Nat} {vs : List Value} (hn : vs.length = n * size) (hc : ∀ i v, vs[i]? = some v → w.cell? ⟨b, off + i, none⟩ = some v) :
    (Builtin.firstCells size n (.slice (some ⟨b, off, none⟩) ln cap)).run Pr w = .ok vs.toArray w := by
  have := run_loadCells_list (P := Pr) w ⟨b, off, none⟩ vs (fun q v hv => by rw [Addr.add_mid]; exact hc q v hv)
  rw [hn] at this
  exact this

section
variable {Pr : Program} {sz bt t t' el : Nat} {it : TypeInfo} {zv : Value}

/-- There is room. -/
theorem run_append_in (A : AppOk Pr sz bt t t' el it zv) {w : World} {b off sLen sCap n : Nat} {x : Value} {news : List Value} {ty : Nat} (hx : ∀ W : World, (Builtin.lenOf x).run Pr W = .ok n W) (hnew : (Builtin.firstCells sz n x).run Pr w = .ok news.toArray w)
    (hroom : sLen + n ≤ sCap) (h1 : ∀ u ∈ news, u.oneCell' = true) (hc : ∀ i, i < news.length → (w.cell? ⟨b, off + sLen * sz + i, none⟩).isSome = true) (hf : ∀ i, i < news.length → w.frozen? ⟨b, off + sLen * sz + i, none⟩ = false) :
    (Builtin.append_ #[t, t'] ty #[.slice (some ⟨b, off, none⟩) sLen sCap, x]).run Pr w = .ok (.slice (some ⟨b, off, none⟩) (sLen + n) sCap) (w.setCells b (off + sLen * sz) news) := by
  obtain ⟨el', hu'⟩ := A.hu'
  have hso : ∀ W : World, (sizeOf el).run Pr W = .ok sz W := by intro W; simp [sizeOf, typeInfo, A.hi, A.hs]
  have hst := run_storeCells_cells (P := Pr) b (off + sLen * sz) news 0 w (fun q hq => by simpa using hc q hq) (fun q hq => by simpa using hf q hq) h1
  rw [Nat.add_zero] at hst
  simp only [Builtin.append_, Sem.run_bind, run_underlying A.hu, Result.andThen_ok, hso, List.getElem?_toArray, List.getElem?_cons_zero, List.getElem?_cons_succ, run_underlying hu', Sem.run_pure, hx]
  simp [hroom, hnew, Addr.add_mid, hst, hx]

/-- There is none: a new row. -/
theorem run_append_out (A : AppOk Pr sz bt t t' el it zv) {w : World} {base : Option Addr} {sLen sCap n : Nat} {x : Value} {olds news : List Value} {ty : Nat} (hx : ∀ W : World, (Builtin.lenOf x).run Pr W = .ok n W)
    (hold : ∀ d : Nat, (Builtin.firstCells sz sLen (.slice base sLen sCap)).run Pr { w with drawn := d } = .ok olds.toArray { w with drawn := d })
    (hnew : ∀ d : Nat, (Builtin.firstCells sz n x).run Pr { w with drawn := d } = .ok news.toArray { w with drawn := d })
    (hroom : sCap < sLen + n) (hbig : (sLen + n) * bt ≤ 35184372088832) :
    ∃ newCap d, sLen + n ≤ newCap ∧ (Builtin.append_ #[t, t'] ty #[.slice base sLen sCap, x]).run Pr w = .ok (.slice (some ⟨w.heap.size, 0, none⟩) (sLen + n) newCap)
      (({ w with drawn := d } : World).alloc (.cells (olds.toArray ++ news.toArray ++ Builtin.zeroCells zv.cells (newCap - (sLen + n))) el)) := by
  obtain ⟨el', hu'⟩ := A.hu'
  have hso : ∀ W : World, (sizeOf el).run Pr W = .ok sz W := by intro W; simp [sizeOf, typeInfo, A.hi, A.hs]
  have hti : ∀ W : World, (typeInfo el).run Pr W = .ok it W := by intro W; simp [typeInfo, A.hi]
  have hzv : ∀ W : World, (zeroValue el).run Pr W = .ok zv W := by intro W; simp [zeroValue, typeInfo, A.hi, A.hz]
  have hnl := next_le (sLen + n) sCap hroom
  have hmul : Builtin.nextslicecap (sLen + n) sCap * bt ≤ 2 ^ 48 := by
    calc Builtin.nextslicecap (sLen + n) sCap * bt ≤ (sLen + n + (sLen + n) + 768) * bt := Nat.mul_le_mul_right _ hnl
      _ = (sLen + n) * bt + (sLen + n) * bt + 768 * bt := by rw [Nat.add_mul, Nat.add_mul]
      _ ≤ 2 ^ 48 := by have := A.hb1; omega
  refine ⟨(Question.appendCap (sLen + n) sCap el).cut (w.tape w.drawn (.appendCap (sLen + n) sCap el)), w.drawn + 1, ?_, ?_⟩
  · simp only [Question.cut]; omega
  · have hno : ¬ sLen + n ≤ sCap := by omega
    have hng : ¬ (Builtin.nextslicecap (sLen + n) sCap * it.bytes > 2 ^ 48) := by rw [A.hb]; omega
    simp only [Builtin.append_, Sem.run_bind, run_underlying A.hu, Result.andThen_ok, hso, List.getElem?_toArray, List.getElem?_cons_zero, List.getElem?_cons_succ, run_underlying hu', Sem.run_pure, hx]
    simp only [Bool.false_eq_true, if_false, Sem.run_bind, hx, Result.andThen_ok, if_neg hno, hti, A.hb, A.hb0, false_or, and_false, Sem.run_pure, Sem.run_ite]
    rw [if_neg (by omega)]
    have hch : (choose (.appendCap (sLen + n) sCap el)).run Pr w = .ok ((Question.appendCap (sLen + n) sCap el).cut (w.tape w.drawn (.appendCap (sLen + n) sCap el))) { w with drawn := w.drawn + 1 } := by
      rw [run_choose]; rfl
    simp only [hch, Result.andThen_ok, run_askRoom, hold, Bool.not_false, if_true, hnew, hzv]
    rfl

/-- Noughts behind nothing. -/
theorem run_append_zeros {el : Nat} {it : TypeInfo} {zv : Value} (hu : Pr.underlying t = some (.slice el)) {ik : IntKind} (hu' : Pr.underlying t' = some (.int ik)) (hi : Pr.info? el = some it) (hz : it.zero = some zv) (hs0 : it.size ≠ 0) (hb0 : it.bytes ≠ 0) {w : World} {n : Nat} {ty : Nat} {k : IntKind}
    (hn : n ≠ 0) (hbig : n * it.bytes ≤ 1073741824) :
    ∃ newCap d, n ≤ newCap ∧ (Builtin.append_ #[t, t'] ty #[.slice none 0 0, .int k n]).run Pr w = .ok (.slice (some ⟨w.heap.size, 0, none⟩) n newCap)
      (({ w with drawn := d } : World).alloc (.cells (#[] ++ Builtin.zeroCells zv.cells n ++ Builtin.zeroCells zv.cells (newCap - n)) el)) := by
  have hso : ∀ W : World, (sizeOf el).run Pr W = .ok it.size W := by intro W; simp [sizeOf, typeInfo, hi]
  have hti : ∀ W : World, (typeInfo el).run Pr W = .ok it W := by intro W; simp [typeInfo, hi]
  have hzv : ∀ W : World, (zeroValue el).run Pr W = .ok zv W := by intro W; simp [zeroValue, typeInfo, hi, hz]
  have hn1 : n ≤ 1073741824 := by
    have h1 : n * 1 ≤ n * it.bytes := Nat.mul_le_mul_left n (by omega)
    omega
  have hw : IntKind.i64.wrap (n : Int) = n := wrap_of_fits (by show Nat.ble n _ = true; rw [Nat.ble_eq]; simp only [top]; omega)
  refine ⟨(Question.appendCap (0 + n) 0 el).cut (w.tape w.drawn (.appendCap (0 + n) 0 el)), w.drawn + 1, ?_, ?_⟩
  · simp only [Question.cut]; omega
  · have hch : (choose (.appendCap (0 + n) 0 el)).run Pr w = .ok ((Question.appendCap (0 + n) 0 el).cut (w.tape w.drawn (.appendCap (0 + n) 0 el))) { w with drawn := w.drawn + 1 } := by
      rw [run_choose]; rfl
    have hl0 : ¬ ((n : Int) < 0) := by omega
    have hl1 : ¬ ((n : Int) * (it.bytes : Int) > 2 ^ 48) := by
      have : (n : Int) * (it.bytes : Int) = ((n * it.bytes : Nat) : Int) := by simp
      rw [this]; omega
    have hno : ¬ (0 + n ≤ 0) := by omega
    have hmx : ¬ (((0 + n : Nat) : Int) > IntKind.i64.max) := by simp only [IntKind.max, IntKind.signed, IntKind.bits]; simp; omega
    have hnx : Builtin.nextslicecap (0 + n) 0 = n := by unfold Builtin.nextslicecap; rw [if_pos (by omega)]; omega
    have hng : ¬ (Builtin.nextslicecap (0 + n) 0 * it.bytes > 2 ^ 48) := by rw [hnx]; omega
    have hnz : ¬ (n * it.size = 0) := Nat.mul_ne_zero hn hs0
    simp only [Builtin.append_, Sem.run_bind, run_underlying hu, Result.andThen_ok, hso, List.getElem?_toArray, List.getElem?_cons_zero, List.getElem?_cons_succ, run_underlying hu', Sem.run_pure]
    simp only [if_true, Sem.run_bind, asInt, asIntOf, Sem.run_pure, Result.andThen_ok, hw, Sem.run_ite, if_neg hl0, hti, if_neg hl1, Int.toNat_natCast, if_neg hno, if_neg hng, Bool.not_true, Bool.false_eq_true, if_false, hch, run_askRoom, Builtin.firstCells, hzv, if_neg hnz]
    rw [if_neg (fun h => hmx h.1)]
    simp only [Nat.zero_add]
    rfl
end

end Go.Proofs.Ythdlkpmhjbaplaa.Dx
