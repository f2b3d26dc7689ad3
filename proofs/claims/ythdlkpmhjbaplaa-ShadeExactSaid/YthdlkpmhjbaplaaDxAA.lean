/- The small machine's make does what Go's does. No statement of this seat is proved here. -/
import Derived.Test.YthdlkpmhjbaplaaDxZ
set_option autoImplicit false
noncomputable section
namespace Go.Proofs.Ythdlkpmhjbaplaa.Dx
open Go

def chkMsl (Pr : Program) (sz bt : Nat) (z : List DV) (t : Nat) : Bool :=
  match Pr.underlying t with
  | some (.slice el) => match Pr.info? el with
    | some it => match it.zero with
      | some zv => Nat.beq it.size sz && !Nat.beq sz 0 && Nat.beq it.bytes bt && !Nat.beq bt 0 && Nat.beq zv.cells.size sz && okCs z zv.cells.toList
      | none => false
    | none => false
  | _ => false
theorem run_msl {Pr : Program} {w : World} {t el : Nat} {it : TypeInfo} {zv : Value} (hu : Pr.underlying t = some (.slice el)) (hit : Pr.info? el = some it) (hz : it.zero = some zv) (hs : zv.cells.size = it.size) (hb : it.bytes ≠ 0)
    {kl kc : IntKind} {n c : Nat} (hnc : n ≤ c) (hle : it.bytes * c ≤ 1073741824) :
    (Instr.makeSlice t (.int kl n) (.int kc c)).run Pr w = .ok (.slice (some ⟨w.heap.size, 0, none⟩) n c) (w.alloc (.cells (Builtin.zeroCells zv.cells c) el)) := by
  have hc1 : c ≤ it.bytes * c := Nat.le_mul_of_pos_left _ (Nat.pos_of_ne_zero hb)
  have wl : IntKind.i64.wrap (n : Int) = n := by rw [IntKind.wrap_i64]; omega
  have wc : IntKind.i64.wrap (c : Int) = c := by rw [IntKind.wrap_i64]; omega
  have n1 : ¬ (c : Int) < 0 := by omega
  have hci : (it.bytes : Int) * (c : Int) ≤ 1073741824 := by have := Int.ofNat_le.2 hle; rw [Int.natCast_mul] at this; omega
  have n2 : ¬ (281474976710656 < (it.bytes : Int) * (c : Int)) := by omega
  have n3 : ¬ (n : Int) < 0 := by omega
  have n4 : ¬ (c : Int) < (n : Int) := by omega
  have n5 : ¬ (140737488355328 < c * it.bytes) := by rw [Nat.mul_comm]; omega
  by_cases hn : c * it.size = 0
  · have hzc : Builtin.zeroCells zv.cells c = #[] := by
      apply Array.eq_empty_of_size_eq_zero; rw [zeroCells_size, hs, hn]
    have n6 : ¬ c < n := by omega
    rw [hzc]
    simp [Instr.makeSlice, run_underlying hu, asInt, asIntOf, typeInfo, hit, sizeOf, wl, wc, n1, n2, n3, n6, hn, newRow, askRoom, roomBytes]
    congr 2
    exact Array.eq_empty_of_size_eq_zero (by simp)
  · have n6 : ¬ c < n := by omega
    simp [Instr.makeSlice, run_underlying hu, asInt, asIntOf, typeInfo, hit, sizeOf, zeroValue, hz, wl, wc, n1, n2, n3, n6, hn, newRow, askRoom, roomBytes, Builtin.zeroCells, hs]
theorem memOk_msl {Pr : Program} {o : Oper} {e : Env} {nx : P} {h : Hp} {dl dc : Opd} {x y : Operand} {t sz bt : Nat} {z : List DV} (ho : o.op = .makeSlice t x y) (hl : chkOpd dl x = true) (hcp : chkOpd dc y = true)
    (hc : chkMsl Pr sz bt z t = true) {kl kc : IntKind} {n c : Nat} (hlv : ev dl e = .int kl n) (hcv : ev dc e = .int kc c) (hnc : n ≤ c) (hbig : bt * c ≤ 1073741824) :
    MemOk Pr o e nx h e (.sl nx 0 n (some c) sz) nx.suc (Tr.set nx h (some (.cells (reps z c)))) := by
  unfold chkMsl at hc
  cases hu : Pr.underlying t with
  | none => simp [hu] at hc
  | some d =>
    cases d <;> simp only [hu, Bool.false_eq_true] at hc
    rename_i el
    cases hit : Pr.info? el with
    | none => simp [hit] at hc
    | some it =>
      cases hz : it.zero with
      | none => simp [hit, hz] at hc
      | some zv =>
        simp only [hit, hz, Bool.and_eq_true, Nat.beq_eq, Bool.not_eq_true'] at hc
        obtain ⟨⟨⟨⟨⟨h1, h2⟩, h3⟩, h4⟩, h5⟩, h6⟩ := hc
        subst h1; subst h3
        have hb0 : it.bytes ≠ 0 := fun h0 => by rw [h0] at h4; exact absurd h4 (by decide)
        refine memOk_new (fun b => .slice (some ⟨b, 0, none⟩) n c) ?_
        intro L N hi j pv a w R
        have r1 := R.reads dl x hl
        have r2 := R.reads dc y hcp
        rw [hlv] at r1; rw [hcv] at r2
        refine ⟨Builtin.zeroCells zv.cells c, el, zeroCells_reps (okCs_sound j _ _ h6) c, ?_, fun j' hj' => ?_⟩
        · simp only [execOp, ho, r1.int, r2.int, Sem.run_bind, run_msl hu hit hz h5 hb0 hnc hbig, Result.andThen_ok, Sem.run_pure]
        · exact VR.slA hj' (fun _ => rfl) ⟨hnc, fun c hc => by cases hc; rfl⟩ (Nat.le_refl _) (by rw [zeroCells_size, h5, Nat.zero_add]; exact Nat.le_refl _)

/-! a literal of no elements -/
def chkBsl0 (Pr : Program) (len sz : Nat) (z : List DV) (ps : List (Nat × Nat × Opd)) (t n : Nat) (qs : List (Nat × Operand)) : Bool :=
  match z, ps, qs with
  | [], [], [] => match Pr.underlying t with
    | some (.slice el) => match Pr.info? el with
      | some ie => Nat.beq ie.size sz && Nat.beq n 0 && Nat.beq len 0
      | none => false
    | _ => false
  | _, _, _ => false
theorem memOk_bsl0 {Pr : Program} {o : Oper} {e : Env} {nx : P} {h : Hp} {len sz : Nat} {z c : List DV} {ps : List (Nat × Nat × Opd)} {t n : Nat} {qs : Array (Nat × Operand)} (ho : o.op = .buildSlice t n qs)
    (hc : chkBsl0 Pr len sz z ps t n qs.toList = true) (hf : fills e ps z = some c) : MemOk Pr o e nx h e (.sl nx 0 len (some len) sz) nx.suc (Tr.set nx h (some (.cells c))) := by
  unfold chkBsl0 at hc
  split at hc
  case h_2 => cases hc
  rename_i hq
  cases hu : Pr.underlying t with
  | none => simp [hu] at hc
  | some dt =>
    cases dt <;> simp only [hu, Bool.false_eq_true] at hc
    rename_i el
    cases hie : Pr.info? el with
    | none => simp [hie] at hc
    | some ie =>
      simp only [hie, Bool.and_eq_true, Nat.beq_eq] at hc
      obtain ⟨⟨rfl, rfl⟩, rfl⟩ := hc
      simp only [fills, Option.some.injEq] at hf
      subst hf
      have hq' : qs = #[] := by apply Array.toList_inj.1; exact hq
      subst hq'
      refine memOk_new (fun b => .slice (some ⟨b, 0, none⟩) 0 0) ?_
      intro L N hi' j pv a w R
      refine ⟨#[], el, .nil, ?_, fun j' hj' => ?_⟩
      · have e0 : (Array.map (fun (_ : Nat) => (default : Value)) (Array.range 0)) = #[] := Array.eq_empty_of_size_eq_zero (by simp)
        simp [execOp, ho, Instr.buildSlice, run_underlying hu, sizeOf, typeInfo, hie, newRow, Instr.fill, e0]
      · exact VR.slA hj' (fun _ => rfl) ⟨Nat.le_refl _, fun c hc => by cases hc; rfl⟩ (Nat.le_refl _) (by simp)


/-! ### noughts over a slice's cells -/

def chkClr (Pr : Program) (z : List DV) (t : Nat) : Bool :=
  match Pr.underlying t with
  | some (.slice el) => match Pr.info? el with
    | some it => match it.zero with
      | some zv => okCs z zv.cells.toList
      | none => false
    | none => false
  | _ => false
theorem chkClr_spec {Pr : Program} {z : List DV} {t : Nat} (h : chkClr Pr z t = true) : ∃ el it zv, Pr.underlying t = some (.slice el) ∧ Pr.info? el = some it ∧ it.zero = some zv ∧ okCs z zv.cells.toList = true := by
  unfold chkClr at h
  cases hu : Pr.underlying t with
  | none => simp [hu] at h
  | some d =>
    cases d <;> simp only [hu, Bool.false_eq_true] at h
    rename_i el
    cases hi : Pr.info? el with
    | none => simp [hi] at h
    | some it =>
      cases hz : it.zero with
      | none => simp [hi, hz] at h
      | some zv => simp only [hi, hz] at h; exact ⟨el, it, zv, rfl, hi, hz, h⟩
section
variable {Pr : Program} {o : Oper} {e : Env} {nx : P} {h : Hp} {d : Opd} {x : Operand} {t : Nat} {z : List DV}
theorem exec_clear (ho : o.op = .call ⟨.builtin .clear, #[x], #[t]⟩) (ρ : Operand → Value) (w : World) {v : Value} {w' : World}
    (hr : (Builtin.clear_ #[t] o.type #[ρ x]).run Pr w = .ok v w') : (execOp ρ o).run Pr w = .ok (.value v) w' := by
  simp only [execOp, ho, resolve, Sem.run_bind, Sem.run_pure, Result.andThen_ok, invoke, builtin]
  simp only [List.map_toArray, List.map_cons, List.map_nil]
  rw [hr]; rfl
theorem memOk_clr0 (ho : o.op = .call ⟨.builtin .clear, #[x], #[t]⟩) (hd : chkOpd d x = true) (hc : chkClr Pr z t = true)
    (hev : ev d e = .nils ∨ ∃ b o c s, ev d e = .sl b o 0 c s) : MemOk Pr o e nx h e (.tup []) nx h := by
  intro L N hi j pv a w R _
  obtain ⟨el, it, zv, hu, hi', hz, hok⟩ := chkClr_spec hc
  have r1 := R.reads d x hd
  have key : ∃ base c, a.eval x = .slice base 0 c := by
    rcases hev with hev | ⟨b, o', c, s, hev⟩
    · rw [hev] at r1; exact ⟨none, 0, r1.nils⟩
    · rw [hev] at r1; obtain ⟨ad, cap, h1, _⟩ := r1.sl; exact ⟨some ad, cap, h1⟩
  obtain ⟨base, c, hxe⟩ := key
  refine ⟨j, w, _, .tuple #[], exec_clear ho a.eval w ?_, .inl rfl, R, Fr.refl _ _ _ _ _, VR.tup (l' := []) .nil⟩
  rw [hxe]
  simp only [Builtin.clear_, Sem.run_bind, Sem.run_pure, Result.andThen_ok, List.getElem?_toArray, List.getElem?_cons_zero, run_underlying hu]
  cases base <;> simp
theorem memOk_clr (ho : o.op = .call ⟨.builtin .clear, #[x], #[t]⟩) (hd : chkOpd d x = true) (hc : chkClr Pr z t = true) {k : P} {o' n : Nat} {cp : Option Nat} {sz : Nat} {l : List DV}
    (hev : ev d e = .sl k o' n cp sz) (hn : 0 < n) (hg : Tr.get? k h = some (.cells l)) (hle : o' + (reps z n).length ≤ l.length) :
    MemOk Pr o e nx h e (.tup []) nx (Tr.set k h (some (.cells (l.take o' ++ reps z n ++ l.drop (o' + (reps z n).length))))) := by
  intro L N hi j pv a w R hnh
  obtain ⟨el, it, zv, hu, hi', hz, hok⟩ := chkClr_spec hc
  have hx := R.reads d x hd
  rw [hev] at hx
  have hlt : k.n < nx.n := by
    rcases Nat.lt_or_ge k.n nx.n with h' | h'
    · exact h'
    · rw [R.top k h'] at hg; cases hg
  have hcs : VRs j (reps z n) (Builtin.zeroCells zv.cells n).toList := zeroCells_reps (okCs_sound j z _ hok) n
  have hlen := hcs.length
  generalize hxe : a.eval x = v' at hx
  cases (hx : VR j _ _) with
  | slO hjk => obtain ⟨_, hg', _⟩ := R.heap k _ hjk hlt; rw [hg] at hg'; cases hg'
  | slD _ hjk => have hg' : Tr.get? k h = some .dead := R.heap k _ hjk hlt; rw [hg] at hg'; cases hg'
  | slE => omega
  | slA hjk hoff =>
    rename_i b s cc off cap h1 h2 h3
    obtain ⟨hlies, l', hg', hll, _⟩ := R.heap k _ hjk hlt
    rw [hg] at hg'; cases hg'
    obtain ⟨R', F'⟩ := R.at_store hnh hjk hlt hg hcs hle
    have hso := hoff (.inl hn)
    subst hso
    refine ⟨j, _, _, .tuple #[], exec_clear ho a.eval w (w' := w.setCells b (s + o') (Builtin.zeroCells zv.cells n).toList) ?_, .inl rfl, R', F', VR.tup (l' := []) .nil⟩
    have hst := run_storeCells_cells (P := Pr) b (s + o') (Builtin.zeroCells zv.cells n).toList 0 w (fun q hq => by simpa using hlies.cell (s + o' + q) (by omega)) (fun q hq => by simpa using hlies.free (s + o' + q) (by omega) (by omega)) hcs.ones
    have hzv : ∀ W : World, (zeroValue el).run Pr W = .ok zv W := by intro W; simp [zeroValue, typeInfo, hi', hz]
    rw [hxe]
    obtain ⟨m, rfl⟩ : ∃ m, n = m + 1 := ⟨n - 1, by omega⟩
    simp only [Nat.add_zero] at hst
    simp only [Builtin.clear_, Sem.run_bind, Sem.run_pure, Result.andThen_ok, List.getElem?_toArray, List.getElem?_cons_zero, run_underlying hu, hzv]
    simp [hst]
end

end Go.Proofs.Ythdlkpmhjbaplaa.Dx
