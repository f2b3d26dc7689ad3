/- The small machine's append and make do what Go's do. No statement of this seat is proved here. -/
import Derived.Test.YthdlkpmhjbaplaaDxY
set_option autoImplicit false
set_option linter.unusedSimpArgs false
set_option linter.unusedVariables false
noncomputable section
namespace Go.Proofs.Ythdlkpmhjbaplaa.Dx
open Go

def alive (k : P) (h : Hp) : Option (List DV) := match Tr.get? k h with | some (.cells l) => some l | some (.ro l) => some l | _ => none
theorem objK_alive (k : P) (h : Hp) (F : Res) (K : List DV → Res) : objK k h F K = match alive k h with | some l => K l | none => F := by
  rw [objK_eq]; unfold alive; cases Tr.get? k h with
  | none => rfl
  | some o => cases o <;> rfl
def slcV (h : Hp) (b : P) (o n sz : Nat) : Option (List DV) := match alive b h with
  | some l => if o ≤ l.length ∧ n * sz ≤ (l.drop o).length then some ((l.drop o).take (n * sz)) else none
  | none => none
theorem slcK_eq (h : Hp) (b : P) (o n sz : Nat) (K : List DV → Res) : slcK h b o n sz K = match slcV h b o n sz with | some l => K l | none => .fail := by
  unfold slcK slcV
  rw [objK_alive]
  cases alive b h with
  | none => rfl
  | some l =>
    show dropK o l .fail (fun t => takeK (n * sz) t .fail K) = _
    rw [dropK_eq]
    by_cases h1 : o ≤ l.length
    · rw [if_pos h1, takeK_eq]
      by_cases h2 : n * sz ≤ (l.drop o).length
      · rw [if_pos h2]; simp only [if_pos (And.intro h1 h2)]
      · rw [if_neg h2]; simp only [if_neg (fun h : o ≤ l.length ∧ n * sz ≤ (l.drop o).length => h2 h.2)]
    · rw [if_neg h1]; simp only [if_neg (fun h : o ≤ l.length ∧ n * sz ≤ (l.drop o).length => h1 h.1)]

section
variable {L : P → Prop} {N hi : Nat} {j : J} {pv : P → Option Nat} {e : Env} {nx : P} {h : Hp} {a : Act} {w : World}
theorem Rel.alive_lt (R : Rel L N hi j pv e nx h a w) {k : P} {l : List DV} (hk : alive k h = some l) : k.n < nx.n := by
  rcases Nat.lt_or_ge k.n nx.n with h' | h'
  · exact h'
  · unfold alive at hk; rw [R.top k h'] at hk; cases hk
theorem Rel.slice (R : Rel L N hi j pv e nx h a w) {k : P} {o n : Nat} {cp : Option Nat} {sz : Nat} {v' : Value} (hv : XD j pv (.sl k o n cp sz) v') {l : List DV} (hk : alive k h = some l) :
    ∃ b s ad cap, v' = .slice (some ad) n cap ∧ capR cp n cap ∧ (0 < n → ad = ⟨b, s + o, none⟩) ∧ CellsAt j w b s l := by
  have hlt := R.alive_lt hk
  unfold alive at hk
  cases (hv : VR j _ _) with
  | slA h1 ho hc hs he =>
    obtain ⟨_, l', hg, _, hcells⟩ := R.heap k _ h1 hlt
    simp only [hg, Option.some.injEq] at hk; subst hk
    exact ⟨_, _, _, _, rfl, hc, fun hn => by rw [ho (.inl hn)], hcells⟩
  | slO h1 ho hc =>
    obtain ⟨l', hg, _, hcells⟩ := R.heap k _ h1 hlt
    simp only [hg, Option.some.injEq] at hk; subst hk
    exact ⟨_, _, _, _, rfl, hc, fun hn => by rw [ho (.inl hn)], hcells⟩
  | slE ad h1 hc _ =>
    obtain ⟨l', hg, _, hcells⟩ := R.heap k _ h1 hlt
    simp only [hg, Option.some.injEq] at hk; subst hk
    exact ⟨_, _, _, _, rfl, hc, fun hn => absurd hn (by omega), hcells⟩
  | slD a h1 hc =>
    have hg : Tr.get? k h = some .dead := R.heap k _ h1 hlt
    simp [hg] at hk
/-- The cells of a slice, as Go reads them; a draw moves nothing. -/
theorem Rel.slice_cells (R : Rel L N hi j pv e nx h a w) {Pr : Program} {k : P} {o n : Nat} {cp : Option Nat} {sz : Nat} {v' : Value} (hv : XD j pv (.sl k o n cp sz) v') {c : List DV} (hs : slcV h k o n sz = some c) :
    ∃ vs : List Value, VRs j c vs ∧ vs.length = n * sz ∧ (∀ W : World, (Builtin.lenOf v').run Pr W = .ok n W) ∧ ∀ d : Nat, (Builtin.firstCells sz n v').run Pr { w with drawn := d } = .ok vs.toArray { w with drawn := d } := by
  unfold slcV at hs
  cases hk : alive k h with
  | none => simp [hk] at hs
  | some l =>
    simp only [hk] at hs
    by_cases hc : o ≤ l.length ∧ n * sz ≤ (l.drop o).length
    case neg => rw [if_neg hc] at hs; cases hs
    rw [if_pos hc] at hs
    simp only [Option.some.injEq] at hs; subst hs
    obtain ⟨b, s, ad, cap, rfl, hcap, hoff, hcells⟩ := R.slice hv hk
    obtain ⟨vs, h1, h2, h3⟩ := hcells.part o (n * sz) hc.2
    refine ⟨vs, h1, h2, fun W => rfl, fun d => ?_⟩
    by_cases hn : 0 < n
    · rw [hoff hn]
      refine run_firstCells h2 ?_
      intro i v hv
      exact h3 i v hv
    · have hn0 : n = 0 := by omega
      subst hn0
      have : vs = [] := List.eq_nil_of_length_eq_zero (by simpa using h2)
      subst this
      have hz := run_loadCells_list (P := Pr) { w with drawn := d } ad [] (fun q v hv => by simp at hv)
      rw [show ([] : List Value).length = 0 * sz by simp] at hz
      exact hz
end

theorem take_three (ovs nvs : List Value) (z : Array Value) {k : Nat} (h : ovs.length + nvs.length = k) : (ovs.toArray ++ nvs.toArray ++ z).toList.take k = ovs ++ nvs := by
  rw [Array.toList_append, Array.toList_append]
  exact List.take_left' (by simp; omega)
theorem zeroCells_size (z : Array Value) (n : Nat) : (Builtin.zeroCells z n).size = n * z.size := by simp [Builtin.zeroCells]

section
variable {Pr : Program} {o : Oper} {e : Env} {nx : P} {h : Hp} {ds dx : Opd} {x y : Operand} {t t' sz bt el : Nat} {it : TypeInfo} {zv : Value}

theorem exec_append (ho : o.op = .call ⟨.builtin .append, #[x, y], #[t, t']⟩) (ρ : Operand → Value) (w : World) {v : Value} {w' : World}
    (hr : (Builtin.append_ #[t, t'] o.type #[ρ x, ρ y]).run Pr w = .ok v w') : (execOp ρ o).run Pr w = .ok (.value v) w' := by
  simp only [execOp, ho, resolve, Sem.run_bind, Sem.run_pure, Result.andThen_ok, invoke, builtin]
  simp only [List.map_toArray, List.map_cons, List.map_nil]
  rw [hr]; rfl

theorem run_append_zero (A : AppOk Pr sz bt t t' el it zv) {w : World} {base : Option Addr} {sLen sCap : Nat} {v : Value} {ty : Nat} (hx : ∀ W : World, (Builtin.lenOf v).run Pr W = .ok 0 W)
    (hnew : (Builtin.firstCells sz 0 v).run Pr w = .ok #[] w) (hle : sLen ≤ sCap) : (Builtin.append_ #[t, t'] ty #[.slice base sLen sCap, v]).run Pr w = .ok (.slice base sLen sCap) w := by
  obtain ⟨el', hu'⟩ := A.hu'
  have hso : ∀ W : World, (sizeOf el).run Pr W = .ok sz W := by intro W; simp [sizeOf, typeInfo, A.hi, A.hs]
  simp only [Builtin.append_, Sem.run_bind, run_underlying A.hu, Result.andThen_ok, hso, List.getElem?_toArray, List.getElem?_cons_zero, List.getElem?_cons_succ, run_underlying hu', Sem.run_pure, hx]
  cases base <;> simp [hle, hnew, hx, storeCells]

/-- Nothing is put behind. -/
theorem memOk_app0 (ho : o.op = .call ⟨.builtin .append, #[x, y], #[t, t']⟩) (hs : chkOpd ds x = true) (hx : chkOpd dx y = true) (A : AppOk Pr sz bt t t' el it zv)
    (hsv : (ev ds e = .nils) ∨ ∃ b o n c s, ev ds e = .sl b o n c s) (hxv : (ev dx e = .nils) ∨ ∃ b o c, ev dx e = .sl b o 0 c sz ∧ slcV h b o 0 sz = some []) : MemOk Pr o e nx h e (ev ds e) nx h := by
  intro L N hi j pv a w R _
  have r1 := R.reads ds x hs
  have r2 := R.reads dx y hx
  have key : ∃ base n c, a.eval x = .slice base n c ∧ n ≤ c := by
    rcases hsv with hsv | ⟨b, o', n, c, s, hsv⟩
    · rw [hsv] at r1; exact ⟨none, 0, 0, r1.nils, Nat.le_refl _⟩
    · rw [hsv] at r1; obtain ⟨ad, cap, h1, h2⟩ := r1.sl; exact ⟨some ad, n, cap, h1, h2.1⟩
  obtain ⟨base, n, c, hxe, hle⟩ := key
  have key2 : (∀ W : World, (Builtin.lenOf (a.eval y)).run Pr W = .ok 0 W) ∧ (Builtin.firstCells sz 0 (a.eval y)).run Pr w = .ok #[] w := by
    rcases hxv with hxv | ⟨b, o', c', hxv, hsl⟩
    · rw [hxv] at r2; rw [r2.nils]; exact ⟨fun _ => rfl, rfl⟩
    · rw [hxv] at r2
      obtain ⟨vs, h1, h2, h3, h4⟩ := R.slice_cells (Pr := Pr) r2 hsl
      cases h1
      exact ⟨h3, h4 w.drawn⟩
  refine ⟨j, w, _, a.eval x, exec_append ho a.eval w ?_, .inl rfl, R, Fr.refl _ _ _ _ _, r1⟩
  rw [hxe]
  exact run_append_zero A key2.1 key2.2 hle

/-- Something behind nothing, or behind what has no room for it. -/
theorem memOk_appNew (ho : o.op = .call ⟨.builtin .append, #[x, y], #[t, t']⟩) (hs : chkOpd ds x = true) (hx : chkOpd dx y = true) (A : AppOk Pr sz bt t t' el it zv) {b2 : P} {o2 m : Nat} {c2 : Option Nat} {old new : List DV} {n : Nat}
    (hsv : (ev ds e = .nils ∧ n = 0 ∧ old = [] ∧ 0 < m) ∨ ∃ b o' c, ev ds e = .sl b o' n (some c) sz ∧ slcV h b o' n sz = some old ∧ c < n + m)
    (hxv : ev dx e = .sl b2 o2 m c2 sz) (hnew : slcV h b2 o2 m sz = some new) (hbig : (n + m) * bt ≤ 35184372088832) :
    MemOk Pr o e nx h e (.sl nx 0 (n + m) none sz) nx.suc (Tr.set nx h (some (.cells (old ++ new)))) := by
  intro L N hi j pv a w R hnh
  rw [P.n_suc] at hnh
  have r1 := R.reads ds x hs
  have r2 := R.reads dx y hx
  rw [hxv] at r2
  obtain ⟨nvs, n1, n2, n3, n4⟩ := R.slice_cells (Pr := Pr) r2 hnew
  have key : ∃ (base : Option Addr) (cap : Nat) (ovs : List Value), a.eval x = .slice base n cap ∧ cap < n + m ∧ VRs j old ovs ∧ ovs.length = n * sz ∧ ∀ d : Nat, (Builtin.firstCells sz n (.slice base n cap)).run Pr { w with drawn := d } = .ok ovs.toArray { w with drawn := d } := by
    rcases hsv with ⟨hsv, rfl, rfl, hm⟩ | ⟨b, o', c, hsv, hold, hlt⟩
    · rw [hsv] at r1; exact ⟨none, 0, [], r1.nils, by omega, .nil, by simp, fun d => rfl⟩
    · rw [hsv] at r1
      obtain ⟨ovs, h1, h2, h3, h4⟩ := R.slice_cells (Pr := Pr) r1 hold
      obtain ⟨ad, cap, hxe, hcap⟩ := r1.sl
      refine ⟨some ad, cap, ovs, hxe, by rw [hcap.2 c rfl]; exact hlt, h1, h2, ?_⟩
      rw [← hxe]; exact h4
  obtain ⟨base, cap, ovs, hxe, hroom, o1, o2', o3⟩ := key
  obtain ⟨newCap, d, hcap, hrun⟩ := run_append_out A (ty := o.type) n3 o3 n4 hroom hbig
  have R' := R.drew d
  have hcs : (ovs.toArray ++ nvs.toArray ++ Builtin.zeroCells zv.cells (newCap - (n + m))).size = newCap * sz := by
    simp only [Array.size_append, List.size_toArray, o2', n2, zeroCells_size, A.hzs]
    rw [← Nat.add_mul, ← Nat.add_mul]; congr 1; omega
  have hlen : (old ++ new).length = (n + m) * sz := by rw [List.length_append, o1.length, n1.length, o2', n2, Nat.add_mul]
  have hle : (n + m) * sz ≤ newCap * sz := Nat.mul_le_mul_right _ hcap
  obtain ⟨R2, F2⟩ := R'.alloc (t := el) (cs := ovs.toArray ++ nvs.toArray ++ Builtin.zeroCells zv.cells (newCap - (n + m))) (l := old ++ new) (by omega) (by
      rw [hlen]
      rw [take_three ovs nvs _ (by rw [o2', n2, Nat.add_mul])]
      exact o1.append n1) (by rw [hcs, hlen]; exact hle)
  refine ⟨_, _, _, _, exec_append ho a.eval w (by rw [hxe]; exact hrun), .inl rfl, R2, (Fr.drew hi nx.n j pv w d).trans F2 (Nat.le_refl _), ?_⟩
  refine VR.slA (s := 0) (J.put_self _ _ _) (fun _ => rfl) ⟨hcap, fun c hc => by cases hc⟩ (Nat.le_refl _) ?_
  rw [hcs]; omega


/-- Behind a slice of which it is not known what room it has: the old one is given up. -/
theorem memOk_appKill (ho : o.op = .call ⟨.builtin .append, #[x, y], #[t, t']⟩) (hs : chkOpd ds x = true) (hx : chkOpd dx y = true) (A : AppOk Pr sz bt t t' el it zv) {b b2 : P} {o1 o2 n m : Nat} {c2 : Option Nat} {l new : List DV}
    (hsv : ev ds e = .sl b o1 n none sz) (hg : Tr.get? b h = some (.cells l)) (hol : o1 ≤ l.length) (hnl : n * sz ≤ (l.drop o1).length) (hm : 0 < m)
    (hxv : ev dx e = .sl b2 o2 m c2 sz) (hnew : slcV h b2 o2 m sz = some new) (hbig : (n + m) * bt ≤ 35184372088832) :
    MemOk Pr o e nx h e (.sl nx 0 (n + m) none sz) nx.suc (Tr.set nx (Tr.set b h (some .dead)) (some (.cells ((l.drop o1).take (n * sz) ++ new)))) := by
  intro L N hi j pv a w R hnh
  rw [P.n_suc] at hnh
  have r1 := R.reads ds x hs
  have r2 := R.reads dx y hx
  rw [hxv] at r2
  rw [hsv] at r1
  have hblt : b.n < nx.n := by
    rcases Nat.lt_or_ge b.n nx.n with h' | h'
    · exact h'
    · rw [R.top b h'] at hg; cases hg
  have hslc : slcV h b o1 n sz = some ((l.drop o1).take (n * sz)) := by unfold slcV alive; rw [hg]; simp only [if_pos (And.intro hol hnl)]
  obtain ⟨nvs, n1, n2, n3, n4⟩ := R.slice_cells (Pr := Pr) r2 hnew
  obtain ⟨ovs, q1, q2, q3, q4⟩ := R.slice_cells (Pr := Pr) r1 hslc
  -- where it lies
  generalize hxe : a.eval x = v' at r1 q3 q4
  have r1' : VR j (.sl b o1 n none sz) v' := r1
  cases r1' with
  | slO h1 _ _ => obtain ⟨l', hg', _⟩ := R.heap b _ h1 hblt; rw [hg] at hg'; cases hg'
  | slE _ h1 _ _ => obtain ⟨l', hg', _⟩ := R.heap b _ h1 hblt; rw [hg] at hg'; cases hg'
  | slD _ h1 _ => have hg' : Tr.get? b h = some .dead := R.heap b _ h1 hblt; rw [hg] at hg'; cases hg'
  | slA hjb hoff hcap hsl hfit =>
    rename_i bb s c off cap
    obtain ⟨hlies, l', hg', _, hcells⟩ := R.heap b _ hjb hblt
    rw [hg] at hg'; cases hg'
    by_cases hroom : n + m ≤ cap
    · -- there was room
      have hmul : (n + m) * sz ≤ cap * sz := Nat.mul_le_mul_right _ hroom
      have hmul2 : (n + m) * sz = n * sz + m * sz := Nat.add_mul _ _ _
      have hrun := run_append_in A (w := w) (b := bb) (off := off) (sLen := n) (sCap := cap) (ty := o.type) n3 (n4 w.drawn) hroom n1.ones
        (fun i hi' => by rw [Nat.add_assoc]; exact hlies.cell _ (by omega)) (fun i hi' => by rw [Nat.add_assoc]; exact hlies.free _ (by omega) (by omega))
      have hold : CellsAt j w bb off ((l.drop o1).take (n * sz)) := by
        intro i v hi'
        rw [List.getElem?_take] at hi'
        by_cases hin : i < n * sz
        · rw [if_pos hin, List.getElem?_drop] at hi'
          have hn0 : 0 < n := by rcases Nat.eq_zero_or_pos n with h0 | h0; · rw [h0, Nat.zero_mul] at hin; omega
                                 · exact h0
          rw [hoff (.inl hn0), show s + o1 + i = s + (o1 + i) by omega]
          exact hcells _ _ hi'
        · rw [if_neg hin] at hi'; cases hi'
      have hol2 : ((l.drop o1).take (n * sz)).length = n * sz := by rw [List.length_take]; omega
      obtain ⟨R', F'⟩ := R.take_over (by omega) hblt hjb hold n1 hsl (by rw [hol2, n1.length]; omega)
      rw [hol2] at R' F'
      refine ⟨_, _, _, _, exec_append ho a.eval w (by rw [hxe]; exact hrun), .inl rfl, R', F', ?_⟩
      refine VR.slA (s := off) (J.put_self _ _ _) (fun _ => rfl) ⟨hroom, fun c hc => by cases hc⟩ (Nat.le_refl _) (by omega)
    · -- there was none
      obtain ⟨newCap, d, hncap, hrun⟩ := run_append_out A (ty := o.type) n3 q4 n4 (by omega) hbig
      have R' := R.drew d
      obtain ⟨R1, F1⟩ := R'.kill (by omega) hblt (by rw [hjb]; simp) (fun b' s' => by rw [hjb]; simp)
      have hcs : (ovs.toArray ++ nvs.toArray ++ Builtin.zeroCells zv.cells (newCap - (n + m))).size = newCap * sz := by
        simp only [Array.size_append, List.size_toArray, q2, n2, zeroCells_size, A.hzs]
        rw [← Nat.add_mul, ← Nat.add_mul]; congr 1; omega
      have hlen : ((l.drop o1).take (n * sz) ++ new).length = (n + m) * sz := by rw [List.length_append, q1.length, n1.length, q2, n2, Nat.add_mul]
      have hle : (n + m) * sz ≤ newCap * sz := Nat.mul_le_mul_right _ hncap
      have hext : Ext j (j.put b .dead) := Ext.put_dead
      obtain ⟨R2, F2⟩ := R1.alloc (t := el) (cs := ovs.toArray ++ nvs.toArray ++ Builtin.zeroCells zv.cells (newCap - (n + m))) (l := (l.drop o1).take (n * sz) ++ new) (by omega) (by
          rw [hlen]
          rw [take_three ovs nvs _ (by rw [q2, n2, Nat.add_mul])]
          exact (q1.append n1).mono hext) (by rw [hcs, hlen]; exact hle)
      refine ⟨_, _, _, _, exec_append ho a.eval w (by rw [hxe]; exact hrun), .inl rfl, R2, ((Fr.drew hi nx.n j pv w d).trans F1 (Nat.le_refl _)).trans F2 (Nat.le_refl _), ?_⟩
      refine VR.slA (s := 0) (J.put_self _ _ _) (fun _ => rfl) ⟨hncap, fun c hc => by cases hc⟩ (Nat.le_refl _) ?_
      rw [hcs]; omega

/-- There is room that is known. -/
theorem memOk_appIn (ho : o.op = .call ⟨.builtin .append, #[x, y], #[t, t']⟩) (hs : chkOpd ds x = true) (hx : chkOpd dx y = true) (A : AppOk Pr sz bt t t' el it zv) {b b2 : P} {o1 o2 n m c : Nat} {c2 : Option Nat} {l new : List DV}
    (hsv : ev ds e = .sl b o1 n (some c) sz) (hg : Tr.get? b h = some (.cells l)) (hm : 0 < m) (hroom : n + m ≤ c) (hfit : o1 + n * sz + new.length ≤ l.length)
    (hxv : ev dx e = .sl b2 o2 m c2 sz) (hnew : slcV h b2 o2 m sz = some new) :
    MemOk Pr o e nx h e (.sl b o1 (n + m) (some c) sz) nx (Tr.set b h (some (.cells (l.take (o1 + n * sz) ++ new ++ l.drop (o1 + n * sz + new.length))))) := by
  intro L N hi j pv a w R hnh
  have r1 := R.reads ds x hs
  have r2 := R.reads dx y hx
  rw [hxv] at r2
  rw [hsv] at r1
  have hblt : b.n < nx.n := by
    rcases Nat.lt_or_ge b.n nx.n with h' | h'
    · exact h'
    · rw [R.top b h'] at hg; cases hg
  obtain ⟨nvs, n1, n2, n3, n4⟩ := R.slice_cells (Pr := Pr) r2 hnew
  generalize hxe : a.eval x = v' at r1
  have r1' : VR j (.sl b o1 n (some c) sz) v' := r1
  cases r1' with
  | slO h1 _ _ => obtain ⟨l', hg', _⟩ := R.heap b _ h1 hblt; rw [hg] at hg'; cases hg'
  | slE _ h1 _ _ => obtain ⟨l', hg', _⟩ := R.heap b _ h1 hblt; rw [hg] at hg'; cases hg'
  | slD _ h1 _ => have hg' : Tr.get? b h = some .dead := R.heap b _ h1 hblt; rw [hg] at hg'; cases hg'
  | slA hjb hoff hcap hsl hfit2 =>
    rename_i bb s cc off cap
    obtain ⟨hlies, l', hg', hll, hcells⟩ := R.heap b _ hjb hblt
    rw [hg] at hg'; cases hg'
    have hcc := hcap.2 c rfl
    subst hcc
    have hofe := hoff (.inr ⟨cap, rfl, by omega⟩)
    have hnl := n1.length
    have hrun := run_append_in A (w := w) (b := bb) (off := off) (sLen := n) (sCap := cap) (ty := o.type) n3 (n4 w.drawn) hroom n1.ones
        (fun i hi' => by rw [Nat.add_assoc]; exact hlies.cell _ (by omega)) (fun i hi' => by rw [Nat.add_assoc]; exact hlies.free _ (by omega) (by omega))
    obtain ⟨R', F'⟩ := R.at_store (o := o1 + n * sz) hnh hjb hblt hg n1 hfit
    rw [show s + (o1 + n * sz) = off + n * sz by omega] at R' F'
    refine ⟨j, _, _, _, exec_append ho a.eval w (by rw [hxe]; exact hrun), .inl rfl, R', F', ?_⟩
    exact VR.slA hjb (fun _ => hofe) ⟨hroom, fun c hc => by cases hc; rfl⟩ hsl hfit2

def chkApz (Pr : Program) (sz bt : Nat) (z : List DV) (t t' : Nat) : Bool :=
  match Pr.underlying t, Pr.underlying t' with
  | some (.slice el), some (.int _) => match Pr.info? el with
    | some it => match it.zero with
      | some zv => Nat.beq it.size sz && !Nat.beq sz 0 && Nat.beq it.bytes bt && !Nat.beq bt 0 && Nat.beq zv.cells.size sz && okCs z zv.cells.toList
      | none => false
    | none => false
  | _, _ => false
theorem zeroCells_reps {j : J} {z : List DV} {zs : Array Value} (h : VRs j z zs.toList) (n : Nat) : VRs j (reps z n) (Builtin.zeroCells zs n).toList := by
  have hl := h.length
  refine VRs.of_get ?_ ?_
  · simp [reps, Builtin.zeroCells] at hl ⊢; rw [hl]
  · intro i v hi
    have hlt := (List.getElem?_eq_some_iff.1 hi).1
    have hlen : (reps z n).length = n * z.length := by simp [reps]
    rw [hlen] at hlt
    have hz0 : 0 < z.length := by rcases Nat.eq_zero_or_pos z.length with h0 | h0; · rw [h0, Nat.mul_zero] at hlt; omega
                                  · exact h0
    have hmod : z[i % z.length]? = some v := by
      rw [← hi]
      clear hi
      induction n generalizing i with
      | zero => rw [Nat.zero_mul] at hlt; omega
      | succ n ih =>
        show _ = (z ++ reps z n)[i]?
        by_cases h1 : i < z.length
        · rw [List.getElem?_append_left h1, Nat.mod_eq_of_lt h1]
        · rw [List.getElem?_append_right (by omega), ← ih (i - z.length) (by rw [Nat.succ_mul] at hlt; omega) (by simp [reps])]
          rw [Nat.mod_eq_sub_mod (by omega)]
    obtain ⟨v', hv', hr⟩ := h.get _ v hmod
    refine ⟨v', ?_, hr⟩
    simp only [Builtin.zeroCells, Array.getElem?_toList, Array.getElem?_map, Array.length_toList] at hl hv' ⊢
    rw [Array.getElem?_range, if_pos (by rw [← hl]; exact hlt)]
    simp only [Option.map_some, Option.some.injEq]
    rw [hl] at hv'
    rw [getElem!_def, hv']
theorem memOk_apz (ho : o.op = .call ⟨.builtin .append, #[x, y], #[t, t']⟩) (hs : chkOpd ds x = true) (hx : chkOpd dx y = true) {z : List DV} (hc : chkApz Pr sz bt z t t' = true) {k : IntKind} {n : Nat}
    (hsv : ev ds e = .nils) (hxv : ev dx e = .int k n) (hn : n ≠ 0) (hbig : n * bt ≤ 1073741824) : MemOk Pr o e nx h e (.sl nx 0 n none sz) nx.suc (Tr.set nx h (some (.cells (reps z n)))) := by
  intro L N hi j pv a w R hnh
  rw [P.n_suc] at hnh
  have r1 := R.reads ds x hs
  have r2 := R.reads dx y hx
  rw [hxv] at r2; rw [hsv] at r1
  have hxe := r1.nils
  have hye := r2.int
  unfold chkApz at hc
  cases hu : Pr.underlying t with
  | none => simp [hu] at hc
  | some d =>
    cases hu' : Pr.underlying t' with
    | none => cases d <;> simp [hu, hu'] at hc
    | some d' =>
      cases d <;> cases d' <;> simp only [hu, hu', Bool.false_eq_true] at hc
      rename_i el ik
      cases hit : Pr.info? el with
      | none => simp [hit] at hc
      | some it =>
        cases hz : it.zero with
        | none => simp [hit, hz] at hc
        | some zv =>
          simp only [hit, hz, Bool.and_eq_true, Nat.beq_eq, Bool.not_eq_true'] at hc
          obtain ⟨⟨⟨⟨⟨h1, h2⟩, h3⟩, h4⟩, h5⟩, h6⟩ := hc
          subst h1; subst h3
          have hs0 : it.size ≠ 0 := fun h0 => by rw [h0] at h2; exact absurd h2 (by decide)
          have hb0 : it.bytes ≠ 0 := fun h0 => by rw [h0] at h4; exact absurd h4 (by decide)
          obtain ⟨newCap, dd, hcap, hrun⟩ := run_append_zeros (Pr := Pr) (t := t) (t' := t') (ty := o.type) (k := k) hu hu' hit hz hs0 hb0 (w := w) hn hbig
          have hzr := zeroCells_reps (okCs_sound j _ _ h6) n
          have hcs : (#[] ++ Builtin.zeroCells zv.cells n ++ Builtin.zeroCells zv.cells (newCap - n)).size = newCap * it.size := by
            simp only [Array.size_append, Array.size_empty, zeroCells_size, h5, Nat.zero_add]
            rw [← Nat.add_mul]; congr 1; omega
          have hrl := hzr.length
          have hrl2 : (reps z n).length = n * it.size := by rw [hrl, Array.length_toList, zeroCells_size, h5]
          have hle : n * it.size ≤ newCap * it.size := Nat.mul_le_mul_right _ hcap
          obtain ⟨R2, F2⟩ := (R.drew dd).alloc (t := el) (cs := #[] ++ Builtin.zeroCells zv.cells n ++ Builtin.zeroCells zv.cells (newCap - n)) (l := reps z n) (by omega) (by
            have : (#[] ++ Builtin.zeroCells zv.cells n ++ Builtin.zeroCells zv.cells (newCap - n)).toList.take (reps z n).length = (Builtin.zeroCells zv.cells n).toList := by
              rw [hrl]; simp
            rw [this]; exact hzr) (by rw [hcs, hrl2]; exact hle)
          refine ⟨_, _, _, _, exec_append ho a.eval w (by rw [hxe, hye]; exact hrun), .inl rfl, R2, (Fr.drew hi nx.n j pv w dd).trans F2 (Nat.le_refl _), ?_⟩
          refine VR.slA (s := 0) (J.put_self _ _ _) (fun _ => rfl) ⟨hcap, fun c hc => by cases hc⟩ (Nat.le_refl _) ?_
          rw [hcs]; omega
theorem memOk_apz0 (ho : o.op = .call ⟨.builtin .append, #[x, y], #[t, t']⟩) (hs : chkOpd ds x = true) (hx : chkOpd dx y = true) {z : List DV} (hc : chkApz Pr sz bt z t t' = true) {k : IntKind}
    (hsv : ev ds e = .nils) (hxv : ev dx e = .int k 0) : MemOk Pr o e nx h e .nils nx h := by
  intro L N hi j pv a w R hnh
  have r1 := R.reads ds x hs
  have r2 := R.reads dx y hx
  rw [hxv] at r2; rw [hsv] at r1
  have hxe := r1.nils
  have hye := r2.int
  unfold chkApz at hc
  cases hu : Pr.underlying t with
  | none => simp [hu] at hc
  | some d =>
    cases hu' : Pr.underlying t' with
    | none => cases d <;> simp [hu, hu'] at hc
    | some d' =>
      cases d <;> cases d' <;> simp only [hu, hu', Bool.false_eq_true] at hc
      rename_i el ik
      cases hit : Pr.info? el with
      | none => simp [hit] at hc
      | some it =>
        have hso : ∀ W : World, (sizeOf el).run Pr W = .ok it.size W := by intro W; simp [sizeOf, typeInfo, hit]
        have hti : ∀ W : World, (typeInfo el).run Pr W = .ok it W := by intro W; simp [typeInfo, hit]
        have hw : IntKind.i64.wrap 0 = 0 := wrap_of_fits rfl
        refine ⟨j, w, _, .slice none 0 0, exec_append ho a.eval w ?_, .inl rfl, R, Fr.refl _ _ _ _ _, VR.nils⟩
        rw [hxe, hye]
        simp only [Builtin.append_, Sem.run_bind, run_underlying hu, Result.andThen_ok, hso, List.getElem?_toArray, List.getElem?_cons_zero, List.getElem?_cons_succ, run_underlying hu', Sem.run_pure]
        simp [asInt, asIntOf, hw, hti]

end
end Go.Proofs.Ythdlkpmhjbaplaa.Dx
