/- The small machine's append and make do what Go's do. No statement of this seat is proved here. -/
import Derived.Test.YtnoekfkfinjfgaaGreatDoorUh
set_option autoImplicit false
set_option linter.unusedSectionVars false
set_option linter.unusedSimpArgs false
set_option linter.unusedVariables false
noncomputable section
namespace Go.Proofs.YtnoekfkfinjfgaaGreatDoor.Dx
open Go
variable [Rho]

def alive (k : P) (h : Hp) : Option (List DV) := match Tr.get? k h with | some (.cells l) => some l | some (.ro l) => some l | _ => none
theorem objK_alive (k : P) (h : Hp) (F : Res) (K : List DV → Res) : objK k h F K = match alive k h with | some l => K l | none => F := by
  rw [objK_eq]; unfold alive; cases Tr.get? k h with
  | none => rfl
  | some o => cases o <;> rfl
def slcV (h : Hp) (b : P) (o n sz : Nat) : Option (List DV) := match alive b h with
  | some l => if o ≤ l.length ∧ n * sz ≤ (l.drop o).length then some ((l.drop o).take (n * sz)) else none
  | none => none
theorem slcK_eq (h : Hp) (b : P) (o n sz : Nat) (K : List DV → Res) : slcK h b o n sz K = match slcV h b o n sz with | some l => K l | none => .fail := by
  unfold slcK slcV
  rw [objK_alive]
  cases alive b h with
  | none => rfl
  | some l =>
    show dropK o l .fail (fun t => takeK (n * sz) t .fail K) = _
    rw [dropK_eq]
    by_cases h1 : o ≤ l.length
    · rw [if_pos h1, takeK_eq]
      by_cases h2 : n * sz ≤ (l.drop o).length
      · rw [if_pos h2]; simp only [if_pos (And.intro h1 h2)]
      · rw [if_neg h2]; simp only [if_neg (fun h : o ≤ l.length ∧ n * sz ≤ (l.drop o).length => h2 h.2)]
    · rw [if_neg h1]; simp only [if_neg (fun h : o ≤ l.length ∧ n * sz ≤ (l.drop o).length => h1 h.1)]

section
variable {L : P → Prop} {N hi : Nat} {j : J} {pv : P → Option Nat} {e : Env} {nx : P} {h : Hp} {a : Act} {w : World}
theorem Rel.alive_lt (R : Rel L N hi j pv e nx h a w) {k : P} {l : List DV} (hk : alive k h = some l) : k.n < nx.n := by
  rcases Nat.lt_or_ge k.n nx.n with h' | h'
  · exact h'
  · unfold alive at hk; rw [R.top k h'] at hk; cases hk
theorem Rel.slice (R : Rel L N hi j pv e nx h a w) {k : P} {o n : Nat} {cp : Option Nat} {sz : Nat} {v' : Value} (hv : XD j pv (.sl k o n cp sz) v') {l : List DV} (hk : alive k h = some l) :
    ∃ b s ad cap, v' = .slice (some ad) n cap ∧ capR cp n cap ∧ (0 < n → ad = ⟨b, s + o, none⟩) ∧ CellsAt j w b s l := by
  have hlt := R.alive_lt hk
  unfold alive at hk
  cases (hv : VR j _ _) with
  | slA h1 ho hc hs he =>
    obtain ⟨_, l', hg, _, hcells⟩ := R.heap k _ h1 hlt
    simp only [hg, Option.some.injEq] at hk; subst hk
    exact ⟨_, _, _, _, rfl, hc, fun hn => by rw [ho (.inl hn)], hcells⟩
  | slO h1 ho hc =>
    obtain ⟨l', hg, _, hcells⟩ := R.heap k _ h1 hlt
    simp only [hg, Option.some.injEq] at hk; subst hk
    exact ⟨_, _, _, _, rfl, hc, fun hn => by rw [ho (.inl hn)], hcells⟩
  | slE ad h1 hc _ =>
    obtain ⟨l', hg, _, hcells⟩ := R.heap k _ h1 hlt
    simp only [hg, Option.some.injEq] at hk; subst hk
    exact ⟨_, _, _, _, rfl, hc, fun hn => absurd hn (by omega), hcells⟩
  | slD a h1 hc =>
    have hg : Tr.get? k h = some .dead := R.heap k _ h1 hlt
    simp [hg] at hk
/-- The cells of a slice, as Go reads them; a draw moves nothing. -/
theorem Rel.slice_cells (R : Rel L N hi j pv e nx h a w) {Pr : Program} {k : P} {o n : Nat} {cp : Option Nat} {sz : Nat} {v' : Value} (hv : XD j pv (.sl k o n cp sz) v') {c : List DV} (hs : slcV h k o n sz = some c) :
    ∃ vs : List Value, VRs j c vs ∧ vs.length = n * sz ∧ (∀ W : World, (Builtin.lenOf v').run Pr W = .ok n W) ∧ ∀ d : Nat, (Builtin.firstCells sz n v').run Pr { w with drawn := d } = .ok vs.toArray { w with drawn := d } := by
  unfold slcV at hs
  cases hk : alive k h with
  | none => simp [hk] at hs
  | some l =>
    simp only [hk] at hs
    by_cases hc : o ≤ l.length ∧ n * sz ≤ (l.drop o).length
    case neg => rw [if_neg hc] at hs; cases hs
    rw [if_pos hc] at hs
    simp only [Option.some.injEq] at hs; subst hs
    obtain ⟨b, s, ad, cap, rfl, hcap, hoff, hcells⟩ := R.slice hv hk
    obtain ⟨vs, h1, h2, h3⟩ := hcells.part o (n * sz) hc.2
    refine ⟨vs, h1, h2, fun W => rfl, fun d => ?_⟩
    by_cases hn : 0 < n
    · rw [hoff hn]
      refine run_firstCells h2 ?_
      intro i v hv
      exact h3 i v hv
    · have hn0 : n = 0 := by omega
      subst hn0
      have : vs = [] := List.eq_nil_of_length_eq_zero (by simpa using h2)
      subst this
      have hz := run_loadCells_list (P := Pr) { w with drawn := d } ad [] (fun q v hv => by simp at hv)
      rw [show ([] : List Value).length = 0 * sz by simp] at hz
      exact hz
end

theorem take_three (ovs nvs : List Value) (z : Array Value) {k : Nat} (h : ovs.length + nvs.length = k) : (ovs.toArray ++ nvs.toArray ++ z).toList.take k = ovs ++ nvs := by
  rw [Array.toList_append, Array.toList_append]
  exact List.take_left' (by simp; omega)
theorem zeroCells_size (z : Array Value) (n : Nat) : (Builtin.zeroCells z n).size = n * z.size := by simp [Builtin.zeroCells]

section
variable {Pr : Program} {o : Oper} {e : Env} {nx : P} {h : Hp} {ds dx : Opd} {x y : Operand} {t t' sz bt el : Nat} {it : TypeInfo} {zv : Value}

theorem exec_append (ho : o.op = .call ⟨.builtin .append, #[x, y], #[t, t']⟩) (ρ : Operand → Value) (w : World) {v : Value} {w' : World}
    (hr : (Builtin.append_ #[t, t'] o.type #[ρ x, ρ y]).run Pr w = .ok v w') : (execOp ρ o).run Pr w = .ok (.value v) w' := by
  simp only [execOp, ho, resolve, Sem.run_bind, Sem.run_pure, Result.andThen_ok, invoke, builtin]
  simp only [List.map_toArray, List.map_cons, List.map_nil]
  rw [hr]; rfl

theorem run_append_zero (A : AppOk Pr sz bt t t' el it zv) {w : World} {base : Option Addr} {sLen sCap : Nat} {v : Value} {ty : Nat} (hx : ∀ W : World, (Builtin.lenOf v).run Pr W = .ok 0 W)
    (hnew : (Builtin.firstCells sz 0 v).run Pr w = .ok #[] w) (hle : sLen ≤ sCap) : (Builtin.append_ #[t, t'] ty #[.slice base sLen sCap, v]).run Pr w = .ok (.slice base sLen sCap) w := by
  obtain ⟨el', hu'⟩ := A.hu'
  have hso : ∀ W : World, (sizeOf el).run Pr W = .ok sz W := by intro W; simp [sizeOf, typeInfo, A.hi, A.hs]
  simp only [Builtin.append_, Sem.run_bind, run_underlying A.hu, Result.andThen_ok, hso, List.getElem?_toArray, List.getElem?_cons_zero, List.getElem?_cons_succ, run_underlying hu', Sem.run_pure, hx]
  cases base <;> simp [hle, hnew, hx, storeCells]

/-- Nothing is put behind. -/
theorem memOk_app0 (ho : o.op = .call ⟨.builtin .append, #[x, y], #[t, t']⟩) (hs : chkOpd ds x = true) (hx : chkOpd dx y = true) (A : AppOk Pr sz bt t t' el it zv)
    (hsv : (ev ds e = .nils) ∨ ∃ b o n c s, ev ds e = .sl b o n c s) (hxv : (ev dx e = .nils) ∨ ∃ b o c, ev dx e = .sl b o 0 c sz ∧ slcV h b o 0 sz = some []) : MemOk Pr o e nx h e (ev ds e) nx h := by
  intro L N hi j pv a w R _
  have r1 := R.reads ds x hs
  have r2 := R.reads dx y hx
  have key : ∃ base n c, a.eval x = .slice base n c ∧ n ≤ c := by
    rcases hsv with hsv | ⟨b, o', n, c, s, hsv⟩
    · rw [hsv] at r1; exact ⟨none, 0, 0, r1.nils, Nat.le_refl _⟩
    · rw [hsv] at r1; obtain ⟨ad, cap, h1, h2⟩ := r1.sl; exact ⟨some ad, n, cap, h1, h2.1⟩
  obtain ⟨base, n, c, hxe, hle⟩ := key
  have key2 : (∀ W : World, (Builtin.lenOf (a.eval y)).run Pr W = .ok 0 W) ∧ (Builtin.firstCells sz 0 (a.eval y)).run Pr w = .ok #[] w := by
    rcases hxv with hxv | ⟨b, o', c', hxv, hsl⟩
    · rw [hxv] at r2; rw [r2.nils]; exact ⟨fun _ => rfl, rfl⟩
    · rw [hxv] at r2
      obtain ⟨vs, h1, h2, h3, h4⟩ := R.slice_cells (Pr := Pr) r2 hsl
      cases h1
      exact ⟨h3, h4 w.drawn⟩
  refine ⟨j, w, _, a.eval x, exec_append ho a.eval w ?_, .inl rfl, R, Fr.refl _ _ _ _ _, r1⟩
  rw [hxe]
  exact run_append_zero A key2.1 key2.2 hle

/-- Something behind nothing, or behind what has no room for it. -/
theorem memOk_appNew (ho : o.op = .call ⟨.builtin .append, #[x, y], #[t, t']⟩) (hs : chkOpd ds x = true) (hx : chkOpd dx y = true) (A : AppOk Pr sz bt t t' el it zv) {b2 : P} {o2 m : Nat} {c2 : Option Nat} {old new : List DV} {n : Nat}
    (hsv : (ev ds e = .nils ∧ n = 0 ∧ old = [] ∧ 0 < m) ∨ ∃ b o' c, ev ds e = .sl b o' n (some c) sz ∧ slcV h b o' n sz = some old ∧ c < n + m)
    (hxv : ev dx e = .sl b2 o2 m c2 sz) (hnew : slcV h b2 o2 m sz = some new) (hbig : (n + m) * bt ≤ 35184372088832) :
    MemOk Pr o e nx h e (.sl nx 0 (n + m) none sz) nx.suc (Tr.set nx h (some (.cells (old ++ new)))) := by
  intro L N hi j pv a w R hnh
  rw [P.n_suc] at hnh
  have r1 := R.reads ds x hs
  have r2 := R.reads dx y hx
  rw [hxv] at r2
  obtain ⟨nvs, n1, n2, n3, n4⟩ := R.slice_cells (Pr := Pr) r2 hnew
  have key : ∃ (base : Option Addr) (cap : Nat) (ovs : List Value), a.eval x = .slice base n cap ∧ cap < n + m ∧ VRs j old ovs ∧ ovs.length = n * sz ∧ ∀ d : Nat, (Builtin.firstCells sz n (.slice base n cap)).run Pr { w with drawn := d } = .ok ovs.toArray { w with drawn := d } := by
    rcases hsv with ⟨hsv, rfl, rfl, hm⟩ | ⟨b, o', c, hsv, hold, hlt⟩
    · rw [hsv] at r1; exact ⟨none, 0, [], r1.nils, by omega, .nil, by simp, fun d => rfl⟩
    · rw [hsv] at r1
      obtain ⟨ovs, h1, h2, h3, h4⟩ := R.slice_cells (Pr := Pr) r1 hold
      obtain ⟨ad, cap, hxe, hcap⟩ := r1.sl
      refine ⟨some ad, cap, ovs, hxe, by rw [hcap.2 c rfl]; exact hlt, h1, h2, ?_⟩
      rw [← hxe]; exact h4
  obtain ⟨base, cap, ovs, hxe, hroom, o1, o2', o3⟩ := key
  obtain ⟨newCap, d, hcap, hrun⟩ := run_append_out A (ty := o.type) n3 o3 n4 hroom hbig
  have R' := R.drew d
  have hcs : (ovs.toArray ++ nvs.toArray ++ Builtin.zeroCells zv.cells (newCap - (n + m))).size = newCap * sz := by
    simp only [Array.size_append, List.size_toArray, o2', n2, zeroCells_size, A.hzs]
    rw [← Nat.add_mul, ← Nat.add_mul]; congr 1; omega
  have hlen : (old ++ new).length = (n + m) * sz := by rw [List.length_append, o1.length, n1.length, o2', n2, Nat.add_mul]
  have hle : (n + m) * sz ≤ newCap * sz := Nat.mul_le_mul_right _ hcap
  obtain ⟨R2, F2⟩ := R'.alloc (t := el) (cs := ovs.toArray ++ nvs.toArray ++ Builtin.zeroCells zv.cells (newCap - (n + m))) (l := old ++ new) (by omega) (by
      rw [hlen]
      rw [take_three ovs nvs _ (by rw [o2', n2, Nat.add_mul])]
      exact o1.append n1) (by rw [hcs, hlen]; exact hle)
  refine ⟨_, _, _, _, exec_append ho a.eval w (by rw [hxe]; exact hrun), .inl rfl, R2, (Fr.drew hi nx.n j pv w d).trans F2 (Nat.le_refl _), ?_⟩
  refine VR.slA (s := 0) (J.put_self _ _ _) (fun _ => rfl) ⟨hcap, fun c hc => by cases hc⟩ (Nat.le_refl _) ?_
  rw [hcs]; omega


/-- Behind a slice of which it is not known what room it has: the old one is given up. -/
theorem memOk_appKill (ho : o.op = .call ⟨.builtin .append, #[x, y], #[t, t']⟩) (hs : chkOpd ds x = true) (hx : chkOpd dx y = true) (A : AppOk Pr sz bt t t' el it zv) {b b2 : P} {o1 o2 n m : Nat} {c2 : Option Nat} {l new : List DV}
    (hsv : ev ds e = .sl b o1 n none sz) (hg : Tr.get? b h = some (.cells l)) (hol : o1 ≤ l.length) (hnl : n * sz ≤ (l.drop o1).length) (hm : 0 < m)
    (hxv : ev dx e = .sl b2 o2 m c2 sz) (hnew : slcV h b2 o2 m sz = some new) (hbig : (n + m) * bt ≤ 35184372088832) :
    MemOk Pr o e nx h e (.sl nx 0 (n + m) none sz) nx.suc (Tr.set nx (Tr.set b h (some .dead)) (some (.cells ((l.drop o1).take (n * sz) ++ new)))) := by
  intro L N hi j pv a w R hnh
  rw [P.n_suc] at hnh
  have r1 := R.reads ds x hs
  have r2 := R.reads dx y hx
  rw [hxv] at r2
  rw [hsv] at r1
  have hblt : b.n < nx.n := by
    rcases Nat.lt_or_ge b.n nx.n with h' | h'
    · exact h'
    · rw [R.top b h'] at hg; cases hg
  have hslc : slcV h b o1 n sz = some ((l.drop o1).take (n * sz)) := by unfold slcV alive; rw [hg]; simp only [if_pos (And.intro hol hnl)]
  obtain ⟨nvs, n1, n2, n3, n4⟩ := R.slice_cells (Pr := Pr) r2 hnew
  obtain ⟨ovs, q1, q2, q3, q4⟩ := R.slice_cells (Pr := Pr) r1 hslc
  -- where it lies
  generalize hxe : a.eval x = v' at r1 q3 q4
  have r1' : VR j (.sl b o1 n none sz) v' := r1
  cases r1' with
  | slO h1 _ _ => obtain ⟨l', hg', _⟩ := R.heap b _ h1 hblt; rw [hg] at hg'; cases hg'
  | slE _ h1 _ _ => obtain ⟨l', hg', _⟩ := R.heap b _ h1 hblt; rw [hg] at hg'; cases hg'
  | slD _ h1 _ => have hg' : Tr.get? b h = some .dead := R.heap b _ h1 hblt; rw [hg] at hg'; cases hg'
  | slA hjb hoff hcap hsl hfit =>
    rename_i bb s c off cap
    obtain ⟨hlies, l', hg', _, hcells⟩ := R.heap b _ hjb hblt
    rw [hg] at hg'; cases hg'
    by_cases hroom : n + m ≤ cap
    · -- there was room
      have hmul : (n + m) * sz ≤ cap * sz := Nat.mul_le_mul_right _ hroom
      have hmul2 : (n + m) * sz = n * sz + m * sz := Nat.add_mul _ _ _
      have hrun := run_append_in A (w := w) (b := bb) (off := off) (sLen := n) (sCap := cap) (ty := o.type) n3 (n4 w.drawn) hroom n1.ones
        (fun i hi' => by rw [Nat.add_assoc]; exact hlies.cell _ (by omega)) (fun i hi' => by rw [Nat.add_assoc]; exact hlies.free _ (by omega) (by omega))
      have hold : CellsAt j w bb off ((l.drop o1).take (n * sz)) := by
        intro i v hi'
        rw [List.getElem?_take] at hi'
        by_cases hin : i < n * sz
        · rw [if_pos hin, List.getElem?_drop] at hi'
          have hn0 : 0 < n := by
            rcases Nat.eq_zero_or_pos n with h0 | h0
            · rw [h0, Nat.zero_mul] at hin; omega
            · exact h0
          rw [hoff (.inl hn0), show s + o1 + i = s + (o1 + i) by omega]
          exact hcells _ _ hi'
        · rw [if_neg hin] at hi'; cases hi'
      have hol2 : ((l.drop o1).take (n * sz)).length = n * sz := by rw [List.length_take]; omega
      obtain ⟨R', F'⟩ := R.take_over (by omega) hblt hjb hold n1 hsl (by rw [hol2, n1.length]; omega)
      rw [hol2] at R' F'
      refine ⟨_, _, _, _, exec_append ho a.eval w (by rw [hxe]; exact hrun), .inl rfl, R', F', ?_⟩
      refine VR.slA (s := off) (J.put_self _ _ _) (fun _ => rfl) ⟨hroom, fun c hc => by cases hc⟩ (Nat.le_refl _) (by omega)
    · -- there was none
      obtain ⟨newCap, d, hncap, hrun⟩ := run_append_out A (ty := o.type) n3 q4 n4 (by omega) hbig
      have R' := R.drew d
      obtain ⟨R1, F1⟩ := R'.kill (by omega) hblt (by rw [hjb]; simp) (fun b' s' => by rw [hjb]; simp)
      have hcs : (ovs.toArray ++ nvs.toArray ++ Builtin.zeroCells zv.cells (newCap - (n + m))).size = newCap * sz := by
        simp only [Array.size_append, List.size_toArray, q2, n2, zeroCells_size, A.hzs]
        rw [← Nat.add_mul, ← Nat.add_mul]; congr 1; omega
      have hlen : ((l.drop o1).take (n * sz) ++ new).length = (n + m) * sz := by rw [List.length_append, q1.length, n1.length, q2, n2, Nat.add_mul]
      have hle : (n + m) * sz ≤ newCap * sz := Nat.mul_le_mul_right _ hncap
      have hext : Ext j (j.put b .dead) := Ext.put_dead
      obtain ⟨R2, F2⟩ := R1.alloc (t := el) (cs := ovs.toArray ++ nvs.toArray ++ Builtin.zeroCells zv.cells (newCap - (n + m))) (l := (l.drop o1).take (n * sz) ++ new) (by omega) (by
          rw [hlen]
          rw [take_three ovs nvs _ (by rw [q2, n2, Nat.add_mul])]
          exact (q1.append n1).mono hext) (by rw [hcs, hlen]; exact hle)
      refine ⟨_, _, _, _, exec_append ho a.eval w (by rw [hxe]; exact hrun), .inl rfl, R2, ((Fr.drew hi nx.n j pv w d).trans F1 (Nat.le_refl _)).trans F2 (Nat.le_refl _), ?_⟩
      refine VR.slA (s := 0) (J.put_self _ _ _) (fun _ => rfl) ⟨hncap, fun c hc => by cases hc⟩ (Nat.le_refl _) ?_
      rw [hcs]; omega

/-- There is room that is known. -/
theorem memOk_appIn (ho : o.op = .call ⟨.builtin .append, #[x, y], #[t, t']⟩) (hs : chkOpd ds x = true) (hx : chkOpd dx y = true) (A : AppOk Pr sz bt t t' el it zv) {b b2 : P} {o1 o2 n m c : Nat} {c2 : Option Nat} {l new : List DV}
    (hsv : ev ds e = .sl b o1 n (some c) sz) (hg : Tr.get? b h = some (.cells l)) (hm : 0 < m) (hroom : n + m ≤ c) (hfit : o1 + n * sz + new.length ≤ l.length)
    (hxv : ev dx e = .sl b2 o2 m c2 sz) (hnew : slcV h b2 o2 m sz = some new) :
    MemOk Pr o e nx h e (.sl b o1 (n + m) (some c) sz) nx (Tr.set b h (some (.cells (l.take (o1 + n * sz) ++ new ++ l.drop (o1 + n * sz + new.length))))) := by
  intro L N hi j pv a w R hnh
  have r1 := R.reads ds x hs
  have r2 := R.reads dx y hx
  rw [hxv] at r2
  rw [hsv] at r1
  have hblt : b.n < nx.n := by
    rcases Nat.lt_or_ge b.n nx.n with h' | h'
    · exact h'
    · rw [R.top b h'] at hg; cases hg
  obtain ⟨nvs, n1, n2, n3, n4⟩ := R.slice_cells (Pr := Pr) r2 hnew
  generalize hxe : a.eval x = v' at r1
  have r1' : VR j (.sl b o1 n (some c) sz) v' := r1
  cases r1' with
  | slO h1 _ _ => obtain ⟨l', hg', _⟩ := R.heap b _ h1 hblt; rw [hg] at hg'; cases hg'
  | slE _ h1 _ _ => obtain ⟨l', hg', _⟩ := R.heap b _ h1 hblt; rw [hg] at hg'; cases hg'
  | slD _ h1 _ => have hg' : Tr.get? b h = some .dead := R.heap b _ h1 hblt; rw [hg] at hg'; cases hg'
  | slA hjb hoff hcap hsl hfit2 =>
    rename_i bb s cc off cap
    obtain ⟨hlies, l', hg', hll, hcells⟩ := R.heap b _ hjb hblt
    rw [hg] at hg'; cases hg'
    have hcc := hcap.2 c rfl
    subst hcc
    have hofe := hoff (.inr ⟨cap, rfl, by omega⟩)
    have hnl := n1.length
    have hrun := run_append_in A (w := w) (b := bb) (off := off) (sLen := n) (sCap := cap) (ty := o.type) n3 (n4 w.drawn) hroom n1.ones
        (fun i hi' => by rw [Nat.add_assoc]; exact hlies.cell _ (by omega)) (fun i hi' => by rw [Nat.add_assoc]; exact hlies.free _ (by omega) (by omega))
    obtain ⟨R', F'⟩ := R.at_store (o := o1 + n * sz) hnh hjb hblt hg n1 hfit
    rw [show s + (o1 + n * sz) = off + n * sz by omega] at R' F'
    refine ⟨j, _, _, _, exec_append ho a.eval w (by rw [hxe]; exact hrun), .inl rfl, R', F', ?_⟩
    exact VR.slA hjb (fun _ => hofe) ⟨hroom, fun c hc => by cases hc; rfl⟩ hsl hfit2

def chkApz (Pr : Program) (sz bt : Nat) (z : List DV) (t t' : Nat) : Bool :=
  match Pr.underlying t, Pr.underlying t' with
  | some (.slice el), some (.int _) => match Pr.info? el with
    | some it => match it.zero with
      | some zv => Nat.beq it.size sz && !Nat.beq sz 0 && Nat.beq it.bytes bt && !Nat.beq bt 0 && Nat.beq zv.cells.size sz && okCs z zv.cells.toList
      | none => false
    | none => false
  | _, _ => false
theorem zeroCells_reps {j : J} {z : List DV} {zs : Array Value} (h : VRs j z zs.toList) (n : Nat) : VRs j (reps z n) (Builtin.zeroCells zs n).toList := by
  have hl := h.length
  refine VRs.of_get ?_ ?_
  · simp [reps, Builtin.zeroCells] at hl ⊢; rw [hl]
  · intro i v hi
    have hlt := (List.getElem?_eq_some_iff.1 hi).1
    have hlen : (reps z n).length = n * z.length := by simp [reps]
    rw [hlen] at hlt
    have hz0 : 0 < z.length := by
      rcases Nat.eq_zero_or_pos z.length with h0 | h0
      · rw [h0, Nat.mul_zero] at hlt; omega
      · exact h0
    have hmod : z[i % z.length]? = some v := by
      rw [← hi]
      clear hi
      induction n generalizing i with
      | zero => rw [Nat.zero_mul] at hlt; omega
      | succ n ih =>
        show _ = (z ++ reps z n)[i]?
        by_cases h1 : i < z.length
        · rw [List.getElem?_append_left h1, Nat.mod_eq_of_lt h1]
        · rw [List.getElem?_append_right (by omega), ← ih (i - z.length) (by rw [Nat.succ_mul] at hlt; omega) (by simp [reps])]
          rw [Nat.mod_eq_sub_mod (by omega)]
    obtain ⟨v', hv', hr⟩ := h.get _ v hmod
    refine ⟨v', ?_, hr⟩
    simp only [Builtin.zeroCells, Array.getElem?_toList, Array.getElem?_map, Array.length_toList] at hl hv' ⊢
    rw [Array.getElem?_range, if_pos (by rw [← hl]; exact hlt)]
    simp only [Option.map_some, Option.some.injEq]
    rw [hl] at hv'
    rw [getElem!_def, hv']
theorem memOk_apz (ho : o.op = .call ⟨.builtin .append, #[x, y], #[t, t']⟩) (hs : chkOpd ds x = true) (hx : chkOpd dx y = true) {z : List DV} (hc : chkApz Pr sz bt z t t' = true) {k : IntKind} {n : Nat}
    (hsv : ev ds e = .nils) (hxv : ev dx e = .int k n) (hn : n ≠ 0) (hbig : n * bt ≤ 1073741824) : MemOk Pr o e nx h e (.sl nx 0 n none sz) nx.suc (Tr.set nx h (some (.cells (reps z n)))) := by
  intro L N hi j pv a w R hnh
  rw [P.n_suc] at hnh
  have r1 := R.reads ds x hs
  have r2 := R.reads dx y hx
  rw [hxv] at r2; rw [hsv] at r1
  have hxe := r1.nils
  have hye := r2.int
  unfold chkApz at hc
  cases hu : Pr.underlying t with
  | none => simp [hu] at hc
  | some d =>
    cases hu' : Pr.underlying t' with
    | none => cases d <;> simp [hu, hu'] at hc
    | some d' =>
      cases d <;> cases d' <;> simp only [hu, hu', Bool.false_eq_true] at hc
      rename_i el ik
      cases hit : Pr.info? el with
      | none => simp [hit] at hc
      | some it =>
        cases hz : it.zero with
        | none => simp [hit, hz] at hc
        | some zv =>
          simp only [hit, hz, Bool.and_eq_true, Nat.beq_eq, Bool.not_eq_true'] at hc
          obtain ⟨⟨⟨⟨⟨h1, h2⟩, h3⟩, h4⟩, h5⟩, h6⟩ := hc
          subst h1; subst h3
          have hs0 : it.size ≠ 0 := fun h0 => by rw [h0] at h2; exact absurd h2 (by decide)
          have hb0 : it.bytes ≠ 0 := fun h0 => by rw [h0] at h4; exact absurd h4 (by decide)
          obtain ⟨newCap, dd, hcap, hrun⟩ := run_append_zeros (Pr := Pr) (t := t) (t' := t') (ty := o.type) (k := k) hu hu' hit hz hs0 hb0 (w := w) hn hbig
          have hzr := zeroCells_reps (okCs_sound j _ _ h6) n
          have hcs : (#[] ++ Builtin.zeroCells zv.cells n ++ Builtin.zeroCells zv.cells (newCap - n)).size = newCap * it.size := by
            simp only [Array.size_append, Array.size_empty, zeroCells_size, h5, Nat.zero_add]
            rw [← Nat.add_mul]; congr 1; omega
          have hrl := hzr.length
          have hrl2 : (reps z n).length = n * it.size := by rw [hrl, Array.length_toList, zeroCells_size, h5]
          have hle : n * it.size ≤ newCap * it.size := Nat.mul_le_mul_right _ hcap
          obtain ⟨R2, F2⟩ := (R.drew dd).alloc (t := el) (cs := #[] ++ Builtin.zeroCells zv.cells n ++ Builtin.zeroCells zv.cells (newCap - n)) (l := reps z n) (by omega) (by
            have : (#[] ++ Builtin.zeroCells zv.cells n ++ Builtin.zeroCells zv.cells (newCap - n)).toList.take (reps z n).length = (Builtin.zeroCells zv.cells n).toList := by
              rw [hrl]; simp
            rw [this]; exact hzr) (by rw [hcs, hrl2]; exact hle)
          refine ⟨_, _, _, _, exec_append ho a.eval w (by rw [hxe, hye]; exact hrun), .inl rfl, R2, (Fr.drew hi nx.n j pv w dd).trans F2 (Nat.le_refl _), ?_⟩
          refine VR.slA (s := 0) (J.put_self _ _ _) (fun _ => rfl) ⟨hcap, fun c hc => by cases hc⟩ (Nat.le_refl _) ?_
          rw [hcs]; omega
theorem memOk_apz0 (ho : o.op = .call ⟨.builtin .append, #[x, y], #[t, t']⟩) (hs : chkOpd ds x = true) (hx : chkOpd dx y = true) {z : List DV} (hc : chkApz Pr sz bt z t t' = true) {k : IntKind}
    (hsv : ev ds e = .nils) (hxv : ev dx e = .int k 0) : MemOk Pr o e nx h e .nils nx h := by
  intro L N hi j pv a w R hnh
  have r1 := R.reads ds x hs
  have r2 := R.reads dx y hx
  rw [hxv] at r2; rw [hsv] at r1
  have hxe := r1.nils
  have hye := r2.int
  unfold chkApz at hc
  cases hu : Pr.underlying t with
  | none => simp [hu] at hc
  | some d =>
    cases hu' : Pr.underlying t' with
    | none => cases d <;> simp [hu, hu'] at hc
    | some d' =>
      cases d <;> cases d' <;> simp only [hu, hu', Bool.false_eq_true] at hc
      rename_i el ik
      cases hit : Pr.info? el with
      | none => simp [hit] at hc
      | some it =>
        have hso : ∀ W : World, (sizeOf el).run Pr W = .ok it.size W := by intro W; simp [sizeOf, typeInfo, hit]
        have hti : ∀ W : World, (typeInfo el).run Pr W = .ok it W := by intro W; simp [typeInfo, hit]
        have hw : IntKind.i64.wrap 0 = 0 := wrap_of_fits rfl
        refine ⟨j, w, _, .slice none 0 0, exec_append ho a.eval w ?_, .inl rfl, R, Fr.refl _ _ _ _ _, VR.nils⟩
        rw [hxe, hye]
        simp only [Builtin.append_, Sem.run_bind, run_underlying hu, Result.andThen_ok, hso, List.getElem?_toArray, List.getElem?_cons_zero, List.getElem?_cons_succ, run_underlying hu', Sem.run_pure]
        simp [asInt, asIntOf, hw, hti]

end
end Go.Proofs.YtnoekfkfinjfgaaGreatDoor.Dx

set_option autoImplicit false
set_option linter.unusedSectionVars false
set_option linter.unusedSimpArgs false
noncomputable section
namespace Go.Proofs.YtnoekfkfinjfgaaGreatDoor.Dx
open Go
variable [Rho]

def chkMsl (Pr : Program) (sz bt : Nat) (z : List DV) (t : Nat) : Bool :=
  match Pr.underlying t with
  | some (.slice el) => match Pr.info? el with
    | some it => match it.zero with
      | some zv => Nat.beq it.size sz && !Nat.beq sz 0 && Nat.beq it.bytes bt && !Nat.beq bt 0 && Nat.beq zv.cells.size sz && okCs z zv.cells.toList
      | none => false
    | none => false
  | _ => false
theorem run_msl {Pr : Program} {w : World} {t el : Nat} {it : TypeInfo} {zv : Value} (hu : Pr.underlying t = some (.slice el)) (hit : Pr.info? el = some it) (hz : it.zero = some zv) (hs : zv.cells.size = it.size) (hb : it.bytes ≠ 0)
    {kl kc : IntKind} {n c : Nat} (hnc : n ≤ c) (hle : it.bytes * c ≤ 1073741824) :
    (Instr.makeSlice t (.int kl n) (.int kc c)).run Pr w = .ok (.slice (some ⟨w.heap.size, 0, none⟩) n c) (w.alloc (.cells (Builtin.zeroCells zv.cells c) el)) := by
  have hc1 : c ≤ it.bytes * c := Nat.le_mul_of_pos_left _ (Nat.pos_of_ne_zero hb)
  have wl : IntKind.i64.wrap (n : Int) = n := by rw [IntKind.wrap_i64]; omega
  have wc : IntKind.i64.wrap (c : Int) = c := by rw [IntKind.wrap_i64]; omega
  have n1 : ¬ (c : Int) < 0 := by omega
  have hci : (it.bytes : Int) * (c : Int) ≤ 1073741824 := by have := Int.ofNat_le.2 hle; rw [Int.natCast_mul] at this; omega
  have n2 : ¬ (281474976710656 < (it.bytes : Int) * (c : Int)) := by omega
  have n3 : ¬ (n : Int) < 0 := by omega
  have n4 : ¬ (c : Int) < (n : Int) := by omega
  have n5 : ¬ (140737488355328 < c * it.bytes) := by rw [Nat.mul_comm]; omega
  by_cases hn : c * it.size = 0
  · have hzc : Builtin.zeroCells zv.cells c = #[] := by
      apply Array.eq_empty_of_size_eq_zero; rw [zeroCells_size, hs, hn]
    have n6 : ¬ c < n := by omega
    rw [hzc]
    simp [Instr.makeSlice, run_underlying hu, asInt, asIntOf, typeInfo, hit, sizeOf, wl, wc, n1, n2, n3, n6, hn, newRow, askRoom, roomBytes]
    congr 2
    exact Array.eq_empty_of_size_eq_zero (by simp)
  · have n6 : ¬ c < n := by omega
    simp [Instr.makeSlice, run_underlying hu, asInt, asIntOf, typeInfo, hit, sizeOf, zeroValue, hz, wl, wc, n1, n2, n3, n6, hn, newRow, askRoom, roomBytes, Builtin.zeroCells, hs]
theorem memOk_msl {Pr : Program} {o : Oper} {e : Env} {nx : P} {h : Hp} {dl dc : Opd} {x y : Operand} {t sz bt : Nat} {z : List DV} (ho : o.op = .makeSlice t x y) (hl : chkOpd dl x = true) (hcp : chkOpd dc y = true)
    (hc : chkMsl Pr sz bt z t = true) {kl kc : IntKind} {n c : Nat} (hlv : ev dl e = .int kl n) (hcv : ev dc e = .int kc c) (hnc : n ≤ c) (hbig : bt * c ≤ 1073741824) :
    MemOk Pr o e nx h e (.sl nx 0 n (some c) sz) nx.suc (Tr.set nx h (some (.cells (reps z c)))) := by
  unfold chkMsl at hc
  cases hu : Pr.underlying t with
  | none => simp [hu] at hc
  | some d =>
    cases d <;> simp only [hu, Bool.false_eq_true] at hc
    rename_i el
    cases hit : Pr.info? el with
    | none => simp [hit] at hc
    | some it =>
      cases hz : it.zero with
      | none => simp [hit, hz] at hc
      | some zv =>
        simp only [hit, hz, Bool.and_eq_true, Nat.beq_eq, Bool.not_eq_true'] at hc
        obtain ⟨⟨⟨⟨⟨h1, h2⟩, h3⟩, h4⟩, h5⟩, h6⟩ := hc
        subst h1; subst h3
        have hb0 : it.bytes ≠ 0 := fun h0 => by rw [h0] at h4; exact absurd h4 (by decide)
        refine memOk_new (fun b => .slice (some ⟨b, 0, none⟩) n c) ?_
        intro L N hi j pv a w R
        have r1 := R.reads dl x hl
        have r2 := R.reads dc y hcp
        rw [hlv] at r1; rw [hcv] at r2
        refine ⟨Builtin.zeroCells zv.cells c, el, zeroCells_reps (okCs_sound j _ _ h6) c, ?_, fun j' hj' => ?_⟩
        · simp only [execOp, ho, r1.int, r2.int, Sem.run_bind, run_msl hu hit hz h5 hb0 hnc hbig, Result.andThen_ok, Sem.run_pure]
        · exact VR.slA hj' (fun _ => rfl) ⟨hnc, fun c hc => by cases hc; rfl⟩ (Nat.le_refl _) (by rw [zeroCells_size, h5, Nat.zero_add]; exact Nat.le_refl _)

/-! a literal of no elements -/
def chkBsl0 (Pr : Program) (len sz : Nat) (z : List DV) (ps : List (Nat × Nat × Opd)) (t n : Nat) (qs : List (Nat × Operand)) : Bool :=
  match z, ps, qs with
  | [], [], [] => match Pr.underlying t with
    | some (.slice el) => match Pr.info? el with
      | some ie => Nat.beq ie.size sz && Nat.beq n 0 && Nat.beq len 0
      | none => false
    | _ => false
  | _, _, _ => false
theorem newOk_bsl0 {Pr : Program} {o : Oper} {e : Env} {len sz : Nat} {z c : List DV} {ps : List (Nat × Nat × Opd)} {t n : Nat} {qs : Array (Nat × Operand)} (ho : o.op = .buildSlice t n qs)
    (hc : chkBsl0 Pr len sz z ps t n qs.toList = true) (hf : fills e ps z = some c) : NewOk Pr o e c (fun k => .sl k 0 len (some len) sz) := by
  unfold chkBsl0 at hc
  split at hc
  case h_2 => cases hc
  rename_i hq
  cases hu : Pr.underlying t with
  | none => simp [hu] at hc
  | some dt =>
    cases dt <;> simp only [hu, Bool.false_eq_true] at hc
    rename_i el
    cases hie : Pr.info? el with
    | none => simp [hie] at hc
    | some ie =>
      simp only [hie, Bool.and_eq_true, Nat.beq_eq] at hc
      obtain ⟨⟨rfl, rfl⟩, rfl⟩ := hc
      simp only [fills, Option.some.injEq] at hf
      subst hf
      have hq' : qs = #[] := by apply Array.toList_inj.1; exact hq
      subst hq'
      intro L N hi' j pv nx h a w R
      refine ⟨#[], el, .slice (some ⟨w.heap.size, 0, none⟩) 0 0, .nil, ?_, fun j' k hj' => ?_⟩
      · have e0 : (Array.map (fun (_ : Nat) => (default : Value)) (Array.range 0)) = #[] := Array.eq_empty_of_size_eq_zero (by simp)
        simp [execOp, ho, Instr.buildSlice, run_underlying hu, sizeOf, typeInfo, hie, newRow, Instr.fill, e0]
      · exact XD.of_VR (VR.slA hj' (fun _ => rfl) ⟨Nat.le_refl _, fun c hc => by cases hc; rfl⟩ (Nat.le_refl _) (by simp))


/-! ### noughts over a slice's cells -/

def chkClr (Pr : Program) (z : List DV) (t : Nat) : Bool :=
  match Pr.underlying t with
  | some (.slice el) => match Pr.info? el with
    | some it => match it.zero with
      | some zv => okCs z zv.cells.toList
      | none => false
    | none => false
  | _ => false
theorem chkClr_spec {Pr : Program} {z : List DV} {t : Nat} (h : chkClr Pr z t = true) : ∃ el it zv, Pr.underlying t = some (.slice el) ∧ Pr.info? el = some it ∧ it.zero = some zv ∧ okCs z zv.cells.toList = true := by
  unfold chkClr at h
  cases hu : Pr.underlying t with
  | none => simp [hu] at h
  | some d =>
    cases d <;> simp only [hu, Bool.false_eq_true] at h
    rename_i el
    cases hi : Pr.info? el with
    | none => simp [hi] at h
    | some it =>
      cases hz : it.zero with
      | none => simp [hi, hz] at h
      | some zv => simp only [hi, hz] at h; exact ⟨el, it, zv, rfl, hi, hz, h⟩
section
variable {Pr : Program} {o : Oper} {e : Env} {nx : P} {h : Hp} {d : Opd} {x : Operand} {t : Nat} {z : List DV}
theorem exec_clear (ho : o.op = .call ⟨.builtin .clear, #[x], #[t]⟩) (ρ : Operand → Value) (w : World) {v : Value} {w' : World}
    (hr : (Builtin.clear_ #[t] o.type #[ρ x]).run Pr w = .ok v w') : (execOp ρ o).run Pr w = .ok (.value v) w' := by
  simp only [execOp, ho, resolve, Sem.run_bind, Sem.run_pure, Result.andThen_ok, invoke, builtin]
  simp only [List.map_toArray, List.map_cons, List.map_nil]
  rw [hr]; rfl
theorem memOk_clr0 (ho : o.op = .call ⟨.builtin .clear, #[x], #[t]⟩) (hd : chkOpd d x = true) (hc : chkClr Pr z t = true)
    (hev : ev d e = .nils ∨ ∃ b o c s, ev d e = .sl b o 0 c s) : MemOk Pr o e nx h e (.tup []) nx h := by
  intro L N hi j pv a w R _
  obtain ⟨el, it, zv, hu, hi', hz, hok⟩ := chkClr_spec hc
  have r1 := R.reads d x hd
  have key : ∃ base c, a.eval x = .slice base 0 c := by
    rcases hev with hev | ⟨b, o', c, s, hev⟩
    · rw [hev] at r1; exact ⟨none, 0, r1.nils⟩
    · rw [hev] at r1; obtain ⟨ad, cap, h1, _⟩ := r1.sl; exact ⟨some ad, cap, h1⟩
  obtain ⟨base, c, hxe⟩ := key
  refine ⟨j, w, _, .tuple #[], exec_clear ho a.eval w ?_, .inl rfl, R, Fr.refl _ _ _ _ _, VR.tup (l' := []) .nil⟩
  rw [hxe]
  simp only [Builtin.clear_, Sem.run_bind, Sem.run_pure, Result.andThen_ok, List.getElem?_toArray, List.getElem?_cons_zero, run_underlying hu]
  cases base <;> simp
theorem memOk_clr (ho : o.op = .call ⟨.builtin .clear, #[x], #[t]⟩) (hd : chkOpd d x = true) (hc : chkClr Pr z t = true) {k : P} {o' n : Nat} {cp : Option Nat} {sz : Nat} {l : List DV}
    (hev : ev d e = .sl k o' n cp sz) (hn : 0 < n) (hg : Tr.get? k h = some (.cells l)) (hle : o' + (reps z n).length ≤ l.length) :
    MemOk Pr o e nx h e (.tup []) nx (Tr.set k h (some (.cells (l.take o' ++ reps z n ++ l.drop (o' + (reps z n).length))))) := by
  intro L N hi j pv a w R hnh
  obtain ⟨el, it, zv, hu, hi', hz, hok⟩ := chkClr_spec hc
  have hx := R.reads d x hd
  rw [hev] at hx
  have hlt : k.n < nx.n := by
    rcases Nat.lt_or_ge k.n nx.n with h' | h'
    · exact h'
    · rw [R.top k h'] at hg; cases hg
  have hcs : VRs j (reps z n) (Builtin.zeroCells zv.cells n).toList := zeroCells_reps (okCs_sound j z _ hok) n
  have hlen := hcs.length
  generalize hxe : a.eval x = v' at hx
  cases (hx : VR j _ _) with
  | slO hjk => obtain ⟨_, hg', _⟩ := R.heap k _ hjk hlt; rw [hg] at hg'; cases hg'
  | slD _ hjk => have hg' : Tr.get? k h = some .dead := R.heap k _ hjk hlt; rw [hg] at hg'; cases hg'
  | slE => omega
  | slA hjk hoff =>
    rename_i b s cc off cap h1 h2 h3
    obtain ⟨hlies, l', hg', hll, _⟩ := R.heap k _ hjk hlt
    rw [hg] at hg'; cases hg'
    obtain ⟨R', F'⟩ := R.at_store hnh hjk hlt hg hcs hle
    have hso := hoff (.inl hn)
    subst hso
    refine ⟨j, _, _, .tuple #[], exec_clear ho a.eval w (w' := w.setCells b (s + o') (Builtin.zeroCells zv.cells n).toList) ?_, .inl rfl, R', F', VR.tup (l' := []) .nil⟩
    have hst := run_storeCells_cells (P := Pr) b (s + o') (Builtin.zeroCells zv.cells n).toList 0 w (fun q hq => by simpa using hlies.cell (s + o' + q) (by omega)) (fun q hq => by simpa using hlies.free (s + o' + q) (by omega) (by omega)) hcs.ones
    have hzv : ∀ W : World, (zeroValue el).run Pr W = .ok zv W := by intro W; simp [zeroValue, typeInfo, hi', hz]
    rw [hxe]
    obtain ⟨m, rfl⟩ : ∃ m, n = m + 1 := ⟨n - 1, by omega⟩
    simp only [Nat.add_zero] at hst
    simp only [Builtin.clear_, Sem.run_bind, Sem.run_pure, Result.andThen_ok, List.getElem?_toArray, List.getElem?_cons_zero, run_underlying hu, hzv]
    simp [hst]
end

end Go.Proofs.YtnoekfkfinjfgaaGreatDoor.Dx

set_option autoImplicit false
set_option linter.unusedSectionVars false
set_option linter.unusedSimpArgs false
set_option linter.unusedVariables false
noncomputable section
namespace Go.Proofs.YtnoekfkfinjfgaaGreatDoor.Dx
open Go
variable [Rho]

section
variable {L : P → Prop} {N hi : Nat} {j : J} {pv : P → Option Nat} {e : Env} {nx : P} {h : Hp} {a : Act} {w : World}

/-- A NEW MAP. -/
theorem Rel.map_new (R : Rel L N hi j pv e nx h a w) (hn : nx.n < hi) :
    Rel L N hi (j.put nx (.mp w.heap.size)) pv e nx.suc (Tr.set nx h (some (.mp []))) a (w.alloc (.map #[] 0)) ∧
    Fr hi nx.n j pv w (j.put nx (.mp w.heap.size)) pv (w.alloc (.map #[] 0)) := by
  have hnone := R.key_none hn
  have hext := Ext.put_new hnone (.mp w.heap.size)
  have hsz : (w.alloc (.map #[] 0)).heap.size = w.heap.size + 1 := by show (w.heap.push _).size = _; simp
  have hold : ∀ x, x < w.heap.size → (w.alloc (.map #[] 0)).heap[x]? = w.heap[x]? := fun x hx => alloc_old w _ hx
  have hnew : (w.alloc (.map #[] 0)).heap[w.heap.size]? = some (.map #[] 0) := by show (w.heap.push _)[w.heap.size]? = _; simp
  refine ⟨?_, ?_⟩
  · constructor
    · intro k i hk
      rw [P.n_suc]
      by_cases h1 : k = nx
      · subst h1; exact .inl (by omega)
      · rw [J.put_ne j h1] at hk
        rcases R.fresh k i hk with h | h
        · exact .inl (by omega)
        · exact .inr h
    · intro k i hk hlt
      by_cases h1 : k = nx
      · subst h1
        rw [J.put_self] at hk
        cases hk
        exact ⟨[], #[], 0, Tr.get_set_self _ _ _, hnew, .nil, rfl, fun i x h => by simp at h⟩
      · rw [J.put_ne j h1] at hk
        have hlt' : k.n < nx.n := by
          rw [P.n_suc] at hlt
          have : k.n ≠ nx.n := fun h => h1 (P.n_inj h)
          omega
        refine HR.of_heap hext (Tr.get_set_ne h1 _ _) (by omega) ?_ (fun r es n _ => alloc_map w _ r es n) (R.heap k i hk hlt')
        intro b hb
        rcases hb with ⟨s, c, rfl⟩ | ⟨s, rfl⟩
        · exact hold b (R.lt k b s c hk)
        · exact hold b (R.lr k b s hk)
    · intro k k' b s c s' c' hk hk'
      by_cases h1 : k = nx
      · subst h1; rw [J.put_self] at hk; cases hk
      · by_cases h2 : k' = nx
        · subst h2; rw [J.put_self] at hk'; cases hk'
        · rw [J.put_ne j h1] at hk; rw [J.put_ne j h2] at hk'; exact R.inj _ _ _ _ _ _ _ hk hk'
    · intro k k' b s c s' hk hk'
      by_cases h1 : k = nx
      · subst h1; rw [J.put_self] at hk; cases hk
      · by_cases h2 : k' = nx
        · subst h2; rw [J.put_self] at hk'; cases hk'
        · rw [J.put_ne j h1] at hk; rw [J.put_ne j h2] at hk'; exact R.inr _ _ _ _ _ _ hk hk'
    · intro p v hv
      refine ER.of_heap hext (by omega) ?_ (R.env p v hv)
      intro b hb
      obtain ⟨l, hl⟩ := R.pvv p b hb
      obtain ⟨b', hb', _, hlies, _⟩ := R.env p _ hl
      rw [hb] at hb'; cases hb'
      exact hold b hlies.lt
    · exact R.pvv
    · exact R.pin
    · intro p b hb k s c hk
      by_cases h1 : k = nx
      · subst h1; rw [J.put_self] at hk; cases hk
      · rw [J.put_ne j h1] at hk; exact R.pfr p b hb k s c hk
    · intro p b hb k s hk
      by_cases h1 : k = nx
      · subst h1; rw [J.put_self] at hk; cases hk
      · rw [J.put_ne j h1] at hk; exact R.pfo p b hb k s hk
    · exact R.loc
    · exact R.size
    · intro k b s c hk
      by_cases h1 : k = nx
      · subst h1; rw [J.put_self] at hk; cases hk
      · rw [J.put_ne j h1] at hk; have := R.lt k b s c hk; omega
    · intro k b s hk
      by_cases h1 : k = nx
      · subst h1; rw [J.put_self] at hk; cases hk
      · rw [J.put_ne j h1] at hk; have := R.lr k b s hk; omega
    · intro k hk
      rw [P.n_suc] at hk
      rw [Tr.get_set_ne (by rintro rfl; omega)]
      exact R.top k (by omega)
    · have M := R.maps
      have hlt : ∀ q r, j q = some (.mp r) → r < w.heap.size := fun q r hq => by
        obtain ⟨es, n, he⟩ := M.kind q r hq
        exact (Array.getElem?_eq_some_iff.1 he).1
      constructor
      · intro k hk
        have h1 : k ≠ nx := by rintro rfl; rw [M.glo _ hk] at hnone; cases hnone
        rw [J.put_ne j h1]; exact M.glo k hk
      · intro k k' b s c h1 h2
        by_cases e1 : k = nx
        · subst e1; rw [J.put_self] at h1; cases h1
        · rw [J.put_ne j e1] at h1
          by_cases e2 : k' = nx
          · subst e2; rw [J.put_self] at h2; cases h2; have := R.lt _ _ _ _ h1; omega
          · rw [J.put_ne j e2] at h2; exact M.dis _ _ _ _ _ h1 h2
      · intro k k' b s h1 h2
        by_cases e1 : k = nx
        · subst e1; rw [J.put_self] at h1; cases h1
        · rw [J.put_ne j e1] at h1
          by_cases e2 : k' = nx
          · subst e2; rw [J.put_self] at h2; cases h2; have := R.lr _ _ _ h1; omega
          · rw [J.put_ne j e2] at h2; exact M.dir _ _ _ _ h1 h2
      · intro k k' r h1 h2
        by_cases e1 : k = nx <;> by_cases e2 : k' = nx
        · rw [e1, e2]
        · subst e1; rw [J.put_self] at h1; cases h1; rw [J.put_ne j e2] at h2; have := hlt _ _ h2; omega
        · subst e2; rw [J.put_self] at h2; cases h2; rw [J.put_ne j e1] at h1; have := hlt _ _ h1; omega
        · rw [J.put_ne j e1] at h1; rw [J.put_ne j e2] at h2; exact M.inj _ _ _ h1 h2
      · intro k r h1
        by_cases e1 : k = nx
        · subst e1; rw [J.put_self] at h1; cases h1; exact ⟨_, _, hnew⟩
        · rw [J.put_ne j e1] at h1
          obtain ⟨es, n, he⟩ := M.kind _ _ h1
          exact ⟨es, n, alloc_map w _ r es n he⟩
    · intro p b hb k hk
      by_cases h1 : k = nx
      · subst h1; rw [J.put_self] at hk; cases hk
        obtain ⟨l, hl⟩ := R.pvv p _ hb
        obtain ⟨b', hb', _, hlies, _⟩ := R.env p _ hl
        rw [hb] at hb'; cases hb'
        have := hlies.lt; omega
      · rw [J.put_ne j h1] at hk; exact R.pfm p b hb k hk
  · constructor
    · omega
    · rfl
    · rfl
    · intro x hx _ _ _; exact hold x hx
    · exact hext
    · intro k hk; exact J.put_ne j (by intro h; rw [h] at hk; omega) _
    · intro k hk hk'
      by_cases h1 : k = nx
      · rw [h1]; exact Nat.le_refl _
      · rw [J.put_ne j h1] at hk'; exact absurd hk hk'
    · intro k x s c hk hlt
      by_cases h1 : k = nx
      · subst h1; rw [J.put_self] at hk; cases hk
      · rw [J.put_ne j h1] at hk; exact .inl ⟨k, s, c, hk, hlt⟩
    · intro k x s hk
      by_cases h1 : k = nx
      · subst h1; rw [J.put_self] at hk; cases hk
      · rw [J.put_ne j h1] at hk; exact .inl hk
    · intro p x hx; exact .inl hx
    · intro ad hlt
      unfold World.frozen?; rw [hold _ hlt]
    · intro k x hk hlt
      by_cases h1 : k = nx
      · subst h1; rw [J.put_self] at hk; cases hk; exact .inr (Nat.le_refl _)
      · rw [J.put_ne j h1] at hk; exact .inl ⟨k, hk, hlt⟩

/-- A MAP's ENTRIES ARE TURNED. -/
theorem Rel.map_set (R : Rel L N hi j pv e nx h a w) (hnh : nx.n ≤ hi) {k : P} {r : Nat} (hk : j k = some (.mp r)) (hlt : k.n < nx.n) {l' : List (DV × DV)} {es' : Array MapEntry} {n' : Nat} (hv : VRm j l' es'.toList) (hbn : Born es'.toList n') {w' : World}
    (hw : w'.heap[r]? = some (.map es' n')) (hsz : w'.heap.size = w.heap.size) (hother : ∀ x, x ≠ r → w'.heap[x]? = w.heap[x]?) (hos : w'.os = w.os) (hout : w'.output = w.output) :
    Rel L N hi j pv e nx (Tr.set k h (some (.mp l'))) a w' ∧ Fr hi nx.n j pv w j pv w' := by
  obtain ⟨l0, es0, n0, hg0, hr0, _, _⟩ := (R.heap k _ hk hlt : HR j h w k (.mp r))
  have hcell : ∀ b, b ≠ r → w'.heap[b]? = w.heap[b]? := hother
  refine ⟨?_, ?_⟩
  · constructor
    · exact R.fresh
    · intro k' i hk' hlt'
      by_cases h1 : k' = k
      · subst h1
        rw [hk] at hk'; cases hk'
        exact ⟨_, _, _, Tr.get_set_self _ _ _, hw, hv, hbn⟩
      · refine HR.of_heap (Ext.refl j) (Tr.get_set_ne h1 _ _) (by omega) ?_ ?_ (R.heap k' i hk' hlt')
        · intro b hb
          refine hother b ?_
          rintro rfl
          rcases hb with ⟨s, c, rfl⟩ | ⟨s, rfl⟩
          · exact R.maps.dis _ _ _ _ _ hk' hk
          · exact R.maps.dir _ _ _ _ hk' hk
        · rintro r2 es n rfl he
          rw [hother r2 (by rintro rfl; exact h1 (R.maps.inj _ _ _ hk' hk))]; exact he
    · exact R.inj
    · exact R.inr
    · intro p v hpv
      refine ER.of_heap (Ext.refl j) (by omega) ?_ (R.env p v hpv)
      intro b hb
      exact hother b (by rintro rfl; exact R.pfm p _ hb _ hk)
    · exact R.pvv
    · exact R.pin
    · exact R.pfr
    · exact R.pfo
    · exact R.loc
    · exact R.size
    · intro k' b s c hk'; rw [hsz]; exact R.lt _ _ _ _ hk'
    · intro k' b s hk'; rw [hsz]; exact R.lr _ _ _ hk'
    · intro k' hk'; rw [Tr.get_set_ne (by rintro rfl; omega)]; exact R.top k' hk'
    · refine ⟨R.maps.glo, R.maps.dis, R.maps.dir, R.maps.inj, fun k' r2 hk' => ?_⟩
      by_cases h1 : r2 = r
      · subst h1; exact ⟨_, _, hw⟩
      · obtain ⟨es, n, he⟩ := R.maps.kind k' r2 hk'
        exact ⟨es, n, by rw [hother r2 h1]; exact he⟩
    · exact R.pfm
  · constructor
    · omega
    · exact hos
    · exact hout
    · intro x hx hj hp hm
      refine hother x ?_
      rintro rfl
      have := hm _ hk; omega
    · exact Ext.refl j
    · intro k' _; rfl
    · intro k' h1 h2; exact absurd h1 h2
    · intro k' x s c hk' hl; exact .inl ⟨k', s, c, hk', hl⟩
    · intro _ _ _ h; exact .inl h
    · intro p x hx; exact .inl hx
    · intro ad hl
      unfold World.frozen?
      by_cases h1 : ad.block = r
      · rw [h1, hw, hr0]
      · rw [hother _ h1]
    · intro k' x hk' hl; exact .inl ⟨k', hk', hl⟩
end
end Go.Proofs.YtnoekfkfinjfgaaGreatDoor.Dx
