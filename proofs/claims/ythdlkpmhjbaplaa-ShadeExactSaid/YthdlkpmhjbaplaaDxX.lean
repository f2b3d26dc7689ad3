/- The small machine's loads, stores and new blocks do what Go's operations do. No statement of this seat is proved here. -/
import Derived.Test.YthdlkpmhjbaplaaDxW
set_option autoImplicit false
noncomputable section
namespace Go.Proofs.Ythdlkpmhjbaplaa.Dx
open Go

/-- An instruction's step, beside Go's. -/
def MemOk (Pr : Program) (o : Oper) (e : Env) (nx : P) (h : Hp) (e' : Env) (v : DV) (nx' : P) (h' : Hp) : Prop :=
  ∀ (L : P → Prop) (N hi : Nat) (j : J) (pv : P → Option Nat) (a : Act) (w : World), Rel L N hi j pv e nx h a w → nx'.n ≤ hi →
    ∃ j' w' nxt v', (execOp a.eval o).run Pr w = .ok nxt w' ∧ (nxt = .value v' ∨ nxt = .skip ∧ v' = undef) ∧ Rel L N hi j' pv e' nx' h' a w' ∧ Fr hi nx.n j pv w j' pv w' ∧ XD j' pv v v'

theorem eval_const (a : Act) (v : Value) : a.eval (.const v) = v := rfl

theorem memOk_pure {Pr : Program} {i : Ins} {o : Oper} {e : Env} {v : DV} {nx : P} {h : Hp} (hv : pureDV i e = some v) (hc : chkPure Pr i o.op = true) : MemOk Pr o e nx h e v nx h := by
  intro L N hi j pv a w R _
  obtain ⟨v', hr, hx⟩ := pure_sim hv hc R.reads (eval_const a) w
  exact ⟨j, w, _, v', hr, .inl rfl, R, Fr.refl _ _ _ _ _, hx⟩

section
variable {L : P → Prop} {N hi : Nat} {j : J} {pv : P → Option Nat} {e : Env} {nx : P} {h : Hp} {a : Act} {w : World}

/-- What is met behind an address. -/
theorem Rel.look (R : Rel L N hi j pv e nx h a w) {v : DV} {v' : Value} (hv : XD j pv v v') {l : List DV} {o : Nat} (hl : look v e h = some (l, o)) :
    ∃ b s, v' = .pointer (some ⟨b, s + o, none⟩) ∧ CellsAt j w b s l := by
  cases v <;> simp only [Dx.look, reduceCtorEq] at hl
  case ptr k o' =>
    have hlt : k.n < nx.n := by
      rcases Nat.lt_or_ge k.n nx.n with h | h
      · exact h
      · rw [R.top k h] at hl; simp at hl
    cases (hv : VR j _ _) with
    | ptrA hk =>
      obtain ⟨_, l', hg, _, hc⟩ := R.heap k _ hk hlt
      simp only [hg, Option.some.injEq, Prod.mk.injEq] at hl
      obtain ⟨rfl, rfl⟩ := hl
      exact ⟨_, _, rfl, hc⟩
    | ptrO hk =>
      obtain ⟨l', hg, _, hc⟩ := R.heap k _ hk hlt
      simp only [hg, Option.some.injEq, Prod.mk.injEq] at hl
      obtain ⟨rfl, rfl⟩ := hl
      exact ⟨_, _, rfl, hc⟩
    | ptrD a hk =>
      have hg : Tr.get? k h = some .dead := R.heap k _ hk hlt
      simp [hg] at hl
  case fld q o' =>
    obtain ⟨b, hb, hp⟩ := hv
    obtain ⟨m, hm⟩ := R.pvv q b hb
    simp only [hm, Option.some.injEq, Prod.mk.injEq] at hl
    obtain ⟨rfl, rfl⟩ := hl
    obtain ⟨b', hb', _, _, hc⟩ := R.env q _ hm
    rw [hb] at hb'; cases hb'
    exact ⟨b, 0, by rw [hp, Nat.zero_add], hc⟩
theorem run_loadAt_one {Pr : Program} {t : Nat} (ht : aggIs Pr t false = true) {b o : Nat} {v : Value} (hc : w.cell? ⟨b, o, none⟩ = some v) :
    (Instr.loadAt t (.pointer (some ⟨b, o, none⟩))).run Pr w = .ok v w := by
  simp only [Instr.loadAt, Instr.sureAddr, Sem.run_bind, Sem.run_pure, Result.andThen_ok, loadVar, aggIs_spec ht]
  simp only [Bool.false_eq_true, if_false, run_load, hc]
theorem run_loadAt_many {Pr : Program} {t n : Nat} (ht : aggIs Pr t true = true) (hs : sizeIs Pr t n = true) {b o : Nat} {vs : List Value} (hn : vs.length = n)
    (hc : ∀ i v, vs[i]? = some v → w.cell? ⟨b, o + i, none⟩ = some v) : (Instr.loadAt t (.pointer (some ⟨b, o, none⟩))).run Pr w = .ok (.agg vs.toArray) w := by
  obtain ⟨i, hi, hsz⟩ := sizeIs_spec hs
  have hso : (sizeOf t).run Pr w = .ok n w := by simp [sizeOf, typeInfo, hi, hsz]
  have hl : (loadCells ⟨b, o, none⟩ vs.length).run Pr w = .ok vs.toArray w := run_loadCells_list (P := Pr) w ⟨b, o, none⟩ vs (fun q v hv => by rw [Addr.add_mid]; exact hc q v hv)
  rw [hn] at hl
  simp only [Instr.loadAt, Instr.sureAddr, Sem.run_bind, Sem.run_pure, Result.andThen_ok, loadVar, aggIs_spec ht, if_true, hso, hl]
/-- cells of a stretch -/
theorem CellsAt.part {b s : Nat} {l : List DV} (hc : CellsAt j w b s l) (o n : Nat) (hn : n ≤ (l.drop o).length) :
    ∃ vs : List Value, VRs j ((l.drop o).take n) vs ∧ vs.length = n ∧ ∀ i v, vs[i]? = some v → w.cell? ⟨b, s + o + i, none⟩ = some v := by
  induction n with
  | zero => exact ⟨[], by simpa using VRs.nil, rfl, by simp⟩
  | succ n ih =>
    obtain ⟨vs, h1, h2, h3⟩ := ih (by omega)
    simp only [List.length_drop] at hn
    have hlt : o + n < l.length := by omega
    obtain ⟨v', hv', hr, h1'⟩ := hc (o + n) l[o + n] (by rw [List.getElem?_eq_getElem hlt])
    refine ⟨vs ++ [v'], ?_, by simp [h2], ?_⟩
    · have : (l.drop o).take (n + 1) = (l.drop o).take n ++ [l[o + n]] := by
        rw [List.take_succ_eq_append_getElem (by simp; omega)]
        simp
      rw [this]
      exact h1.append (.cons hr h1' .nil)
    · intro i v hv
      by_cases hi : i < n
      · rw [List.getElem?_append_left (by omega)] at hv; exact h3 i v hv
      · have : i = n := by
          have := (List.getElem?_eq_some_iff.1 hv).1
          simp [h2] at this; omega
        subst this
        rw [List.getElem?_append_right (by omega), h2] at hv
        simp at hv; subst hv
        rw [Nat.add_assoc]; exact hv'
end

theorem memOk_ld {Pr : Program} {o : Oper} {d : Opd} {e : Env} {nx : P} {h : Hp} {l : List DV} {i : Nat} {v : DV} {t : Nat} {x : Operand} (ho : o.op = .load t x) (hd : chkOpd d x = true) (ht : aggIs Pr t false = true)
    (hl : look (ev d e) e h = some (l, i)) (hv : l[i]? = some v) : MemOk Pr o e nx h e v nx h := by
  intro L N hi j pv a w R _
  obtain ⟨b, s, hp, hc⟩ := R.look (R.reads d x hd) hl
  obtain ⟨v', hcell, hr, _⟩ := hc i v hv
  refine ⟨j, w, .value v', v', ?_, .inl rfl, R, Fr.refl _ _ _ _ _, XD.of_VR hr⟩
  simp only [execOp, ho, hp, Sem.run_bind, run_loadAt_one ht hcell, Result.andThen_ok, Sem.run_pure]
theorem memOk_lda {Pr : Program} {o : Oper} {d : Opd} {e : Env} {nx : P} {h : Hp} {l : List DV} {i n : Nat} {t : Nat} {x : Operand} (ho : o.op = .load t x) (hd : chkOpd d x = true) (ht : aggIs Pr t true = true) (hs : sizeIs Pr t n = true)
    (hl : look (ev d e) e h = some (l, i)) (hn : n ≤ (l.drop i).length) : MemOk Pr o e nx h e (.agg ((l.drop i).take n)) nx h := by
  intro L N hi j pv a w R _
  obtain ⟨b, s, hp, hc⟩ := R.look (R.reads d x hd) hl
  obtain ⟨vs, h1, h2, h3⟩ := hc.part i n hn
  refine ⟨j, w, .value (.agg vs.toArray), .agg vs.toArray, ?_, .inl rfl, R, Fr.refl _ _ _ _ _, VR.agg h1⟩
  simp only [execOp, ho, hp, Sem.run_bind, run_loadAt_many ht hs h2 h3, Result.andThen_ok, Sem.run_pure]

theorem run_storeAt_ok {Pr : Program} {t n : Nat} {w : World} {b o : Nat} {v : Value} (hs : sizeIs Pr t n = true) (hn : v.cells.toList.length = n) (h1 : ∀ u ∈ v.cells.toList, u.oneCell' = true)
    (hc : ∀ i, i < n → (w.cell? ⟨b, o + i, none⟩).isSome = true) (hf : ∀ i, i < n → w.frozen? ⟨b, o + i, none⟩ = false) :
    (Instr.storeAt t (.pointer (some ⟨b, o, none⟩)) v).run Pr w = .ok () (w.setCells b o v.cells.toList) := by
  obtain ⟨it, hi, hsz⟩ := sizeIs_spec hs
  have hso : (sizeOf t).run Pr w = .ok n w := by simp [sizeOf, typeInfo, hi, hsz]
  have hst := run_storeCells_cells (P := Pr) b o v.cells.toList 0 w (fun q hq => by simpa using hc q (by omega)) (fun q hq => by simpa using hf q (by omega)) h1
  have hsize : v.cells.size = n := by simpa using hn
  simp only [Nat.add_zero] at hst
  simp only [Instr.storeAt, Instr.sureAddr, Sem.run_bind, Sem.run_pure, Result.andThen_ok, storeVar, hso]
  simp [hsize, hst]

theorem memOk_st {Pr : Program} {o : Oper} {d dv : Opd} {e : Env} {nx : P} {h : Hp} {k : P} {l c : List DV} {i n : Nat} {t : Nat} {x y : Operand} (ho : o.op = .store t x y) (hd : chkOpd d x = true) (hdv : chkOpd dv y = true) (hs : sizeIs Pr t n = true)
    (hk : ev d e = .ptr k i) (hg : Tr.get? k h = some (.cells l)) (hc : (ov dv e).cells = some c) (hn : c.length = n) (hle : i + c.length ≤ l.length) :
    MemOk Pr o e nx h e (.tup []) nx (Tr.set k h (some (.cells (l.take i ++ c ++ l.drop (i + c.length))))) := by
  intro L N hi j pv a w R hnh
  have hx := R.reads d x hd
  rw [hk] at hx
  have hlt : k.n < nx.n := by
    rcases Nat.lt_or_ge k.n nx.n with h' | h'
    · exact h'
    · rw [R.top k h'] at hg; cases hg
  have hcs := (R.reads.ov hdv).cells hc
  have hlen := hcs.length
  generalize hxe : a.eval x = v' at hx
  cases (hx : VR j _ _) with
  | ptrO hjk => obtain ⟨_, hg', _⟩ := R.heap k _ hjk hlt; rw [hg] at hg'; cases hg'
  | ptrD _ hjk => have hg' : Tr.get? k h = some .dead := R.heap k _ hjk hlt; rw [hg] at hg'; cases hg'
  | ptrA hjk =>
    rename_i b s cc
    obtain ⟨hlies, l', hg', hll, _⟩ := R.heap k _ hjk hlt
    rw [hg] at hg'; cases hg'
    obtain ⟨R', F'⟩ := R.at_store hnh hjk hlt hg hcs hle
    refine ⟨j, _, .skip, undef, ?_, .inr ⟨rfl, rfl⟩, R', F', VR.tup (l' := []) .nil⟩
    have hst := run_storeAt_ok (Pr := Pr) (w := w) (b := b) (o := s + i) (v := a.eval y) hs (by omega) hcs.ones (fun q hq => hlies.cell _ (by omega)) (fun q hq => hlies.free _ (by omega) (by omega))
    simp only [execOp, ho, hxe, Sem.run_bind, hst, Result.andThen_ok, Sem.run_pure]
theorem memOk_stv {Pr : Program} {o : Oper} {d dv : Opd} {e : Env} {nx : P} {h : Hp} {p : P} {l c : List DV} {i n : Nat} {t : Nat} {x y : Operand} (ho : o.op = .store t x y) (hd : chkOpd d x = true) (hdv : chkOpd dv y = true) (hs : sizeIs Pr t n = true)
    (hk : ev d e = .fld p i) (hg : Tr.get? p e = some (.var l)) (hc : (ov dv e).cells = some c) (hn : c.length = n) (hle : i + c.length ≤ l.length) :
    MemOk Pr o e nx h (Tr.set p e (some (.var (l.take i ++ c ++ l.drop (i + c.length))))) (.tup []) nx h := by
  intro L N hi j pv a w R hnh
  have hx := R.reads d x hd
  rw [hk] at hx
  obtain ⟨b, hb, hp⟩ := hx
  have hcs := (R.reads.ov hdv).cells hc
  have hlen := hcs.length
  obtain ⟨b', hb', _, hlies, _⟩ := R.env p _ hg
  rw [hb] at hb'; cases hb'
  obtain ⟨R', F'⟩ := R.var_store hb hg hcs hle
  refine ⟨j, _, .skip, undef, ?_, .inr ⟨rfl, rfl⟩, R', F', VR.tup (l' := []) .nil⟩
  have hst := run_storeAt_ok (Pr := Pr) (w := w) (b := b) (o := i) (v := a.eval y) hs (by omega) hcs.ones (fun q hq => hlies.cell _ (by omega)) (fun q hq => hlies.free _ (by omega) (by omega))
  simp only [execOp, ho, hp, Sem.run_bind, hst, Result.andThen_ok, Sem.run_pure]

/-- A new block, as an instruction makes it. -/
theorem memOk_new {Pr : Program} {o : Oper} {e : Env} {nx : P} {h : Hp} {l : List DV} {v : DV} (mk : Nat → Value) 
    (H : ∀ (L : P → Prop) (N hi : Nat) (j : J) (pv : P → Option Nat) (a : Act) (w : World), Rel L N hi j pv e nx h a w → ∃ (cs : Array Value) (t : Nat), VRs j l cs.toList ∧ (execOp a.eval o).run Pr w = .ok (.value (mk w.heap.size)) (w.alloc (.cells cs t)) ∧
      ∀ j' : J, j' nx = some (.at w.heap.size 0 cs.size) → XD j' pv v (mk w.heap.size)) : MemOk Pr o e nx h e v nx.suc (Tr.set nx h (some (.cells l))) := by
  intro L N hi j pv a w R hnh
  rw [P.n_suc] at hnh
  obtain ⟨cs, t, hl, hrun, hx⟩ := H L N hi j pv a w R
  have hlen := hl.length
  have hl' : VRs j l (cs.toList.take l.length) := by rw [hlen, List.take_length]; exact hl
  obtain ⟨R', F'⟩ := R.alloc (t := t) (by omega) hl' (by simp at hlen; omega)
  exact ⟨_, _, _, _, hrun, .inl rfl, R', F', hx _ (J.put_self _ _ _)⟩
theorem memOk_al {Pr : Program} {o : Oper} {e : Env} {nx : P} {h : Hp} {z : List DV} {t : Nat} {it : TypeInfo} {zv : Value} (ho : o.op = .alloc t) (hi : Pr.info? t = some it) (hz : it.zero = some zv) (hc : okCs z zv.cells.toList = true) :
    MemOk Pr o e nx h e (.ptr nx 0) nx.suc (Tr.set nx h (some (.cells z))) := by
  refine memOk_new (fun b => .pointer (some ⟨b, 0, none⟩)) ?_
  intro L N hi' j pv a w R
  refine ⟨zv.cells, t, okCs_sound j _ _ hc, ?_, fun j' hj' => ?_⟩
  · simp only [execOp, ho, Instr.alloc, Sem.run_bind, zeroValue, typeInfo, run_program, Result.andThen_ok, hi, Sem.run_pure, hz, newVar, newRow, run_newObj]
    rfl
  · exact VR.ptrA (s := 0) (o := 0) hj'
theorem memOk_bx {Pr : Program} {o : Oper} {e : Env} {nx : P} {h : Hp} {d : Opd} {c : List DV} {t : Nat} {x : Operand} (ho : o.op = .box t x) (hd : chkOpd d x = true) (hc : (ov d e).cells = some c) :
    MemOk Pr o e nx h e (.ptr nx 0) nx.suc (Tr.set nx h (some (.cells c))) := by
  refine memOk_new (fun b => .pointer (some ⟨b, 0, none⟩)) ?_
  intro L N hi' j pv a w R
  refine ⟨(a.eval x).cells, t, (R.reads.ov hd).cells hc, ?_, fun j' hj' => ?_⟩
  · simp only [execOp, ho, Instr.box, Sem.run_bind, newVar, newRow, run_newObj, Result.andThen_ok, Sem.run_pure]
    rfl
  · exact VR.ptrA (s := 0) (o := 0) hj'
theorem fills_length {e : Env} : ∀ (ps : List (Nat × Nat × Opd)) (z c : List DV), fills e ps z = some c → c.length = z.length
  | [], z, c, h => by simp only [fills, Option.some.injEq] at h; rw [h]
  | (off, size, o) :: ps, z, c, h => by
    simp only [fills] at h
    cases hl : (ov o e).cells with
    | none => simp [hl] at h
    | some l =>
      simp only [hl] at h
      by_cases hc : l.length = size ∧ off + l.length ≤ z.length
      · rw [if_pos hc] at h
        rw [fills_length ps _ c h]
        simp; omega
      · rw [if_neg hc] at h; cases h
def chkBsl (Pr : Program) (len sz : Nat) (z : List DV) (ps : List (Nat × Nat × Opd)) (t : Nat) (n : Nat) (qs : List (Nat × Operand)) : Bool :=
  match Pr.underlying t with
  | some (.slice el) => match Pr.info? el with
    | some ie => match ie.zero with
      | some zv => Nat.beq ie.size sz && !Nat.beq sz 0 && Nat.beq n len && !Nat.beq len 0 && Nat.ble (len * sz) 16777216 && okCs z ((Array.range (len * ie.size)).map (zv.cells[· % zv.cells.size]!)).toList && chkParts (fun i => some (i * ie.size, ie.size)) ps qs
      | none => false
    | none => false
  | _ => false
theorem memOk_bsl {Pr : Program} {o : Oper} {e : Env} {nx : P} {h : Hp} {len sz : Nat} {z c : List DV} {ps : List (Nat × Nat × Opd)} {t n : Nat} {qs : Array (Nat × Operand)} (ho : o.op = .buildSlice t n qs)
    (hc : chkBsl Pr len sz z ps t n qs.toList = true) (hf : fills e ps z = some c) : MemOk Pr o e nx h e (.sl nx 0 len (some len) sz) nx.suc (Tr.set nx h (some (.cells c))) := by
  unfold chkBsl at hc
  cases hu : Pr.underlying t with
  | none => simp [hu] at hc
  | some dt =>
    cases dt <;> simp only [hu, Bool.false_eq_true] at hc
    rename_i el
    cases hie : Pr.info? el with
    | none => simp [hie] at hc
    | some ie =>
      cases hz : ie.zero with
      | none => simp [hie, hz] at hc
      | some zv =>
        simp only [hie, hz, Bool.and_eq_true, Nat.beq_eq, Nat.ble_eq, Bool.not_eq_true'] at hc
        obtain ⟨⟨⟨⟨⟨⟨rfl, hs0⟩, rfl⟩, hn0⟩, hle⟩, hok⟩, hparts⟩ := hc
        have hs0' : ie.size ≠ 0 := fun h0 => by rw [h0] at hs0; exact absurd hs0 (by decide)
        refine memOk_new (fun b => .slice (some ⟨b, 0, none⟩) n n) ?_
        intro L N hi' j pv a w R
        have hm : (qs.map fun (i, x) => (i, a.eval x)).toList = qs.toList.map fun q => (q.1, a.eval q.2) := by simp
        obtain ⟨cs, hcs, hrel⟩ := fill_sim R.reads (fun i => some (i * ie.size, ie.size)) ps qs.toList z c _ hparts (okCs_sound j _ _ hok) hf
        refine ⟨cs, el, hrel, ?_, fun j' hj' => ?_⟩
        · have hso : ∀ w : World, (sizeOf el).run Pr w = .ok ie.size w := by intro w; simp [sizeOf, typeInfo, hie]
          have hzv : ∀ w : World, (zeroValue el).run Pr w = .ok zv w := by intro w; simp [zeroValue, typeInfo, hie, hz]
          have hbig : ¬ n * ie.size > 2 ^ 24 := by omega
          have hn0' : n ≠ 0 := fun h0 => by rw [h0] at hn0; exact absurd hn0 (by decide)
          have h0 : ¬ n * ie.size = 0 := Nat.mul_ne_zero hn0' hs0'
          simp only [execOp, ho, Sem.run_bind, run_buildSlice w t el n _ cs ie zv hu hie hz hbig h0 (by rw [hm]; exact hcs), Result.andThen_ok, Sem.run_pure]
        · have hlen := hrel.length
          have hzl := (okCs_sound j _ _ hok).length
          have hcz := fills_length ps z c hf
          have hsize : n * ie.size ≤ cs.size := by simp at hlen hzl; omega
          exact VR.slA hj' (fun _ => rfl) ⟨Nat.le_refl _, fun c hc => by cases hc; rfl⟩ (Nat.le_refl _) (by omega)

end Go.Proofs.Ythdlkpmhjbaplaa.Dx
