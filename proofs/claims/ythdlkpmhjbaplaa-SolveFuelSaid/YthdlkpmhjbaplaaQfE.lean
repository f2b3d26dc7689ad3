/- A part of the proof of Fuel: a small machine, what its functions come to, plain laws. No statement of this seat is proved here. -/
import Derived.Test.YthdlkpmhjbaplaaQfD
import Derived.Orders
import Derived.ChangeSame
import Derived.ChangeArms
import Derived.ReadAgain
import Derived.RowKit
import Derived.Shelf.SlGeneric
import Derived.Shelf.SortM.Plain
import Derived.Test.YthdlkpmhjbaplaaProg
import Derived.Shelf.SortM.SortNone
import Derived.Lib.SlicesCompact
import Derived.WalkKit
import Derived.Deep.RegionLaw
import Derived.Deep.LoopGhost
import Derived.Shelf.RegionOpenPlain
import Derived.Lib.SliceRun
import Derived.KernelRfl
import Derived.HandedShaped
set_option autoImplicit false
set_option linter.unusedSimpArgs false
set_option linter.unusedVariables false
set_option linter.unnecessarySimpa false
set_option linter.constructorNameAsVariable false
set_option maxRecDepth 100000
noncomputable section
namespace Go.Proofs.Ythdlkpmhjbaplaa.Dx
open Go
def alive (k : P) (h : Hp) : Option (List DV) := match Tr.get? k h with | some (.cells l) => some l | some (.ro l) => some l | _ => none
theorem objK_alive (k : P) (h : Hp) (F : Res) (K : List DV → Res) : objK k h F K = match alive k h with | some l => K l | none => F := by
  rw [objK_eq]; unfold alive; cases Tr.get? k h with
  | none => rfl
  | some o => cases o <;> rfl
def slcV (h : Hp) (b : P) (o n sz : Nat) : Option (List DV) := match alive b h with
  | some l => if o ≤ l.length ∧ n * sz ≤ (l.drop o).length then some ((l.drop o).take (n * sz)) else none
  | none => none
theorem slcK_eq (h : Hp) (b : P) (o n sz : Nat) (K : List DV → Res) : slcK h b o n sz K = match slcV h b o n sz with | some l => K l | none => .fail := by
  unfold slcK slcV
  rw [objK_alive]
  cases alive b h with
  | none => rfl
  | some l =>
    show dropK o l .fail (fun t => takeK (n * sz) t .fail K) = _
    rw [dropK_eq]
    by_cases h1 : o ≤ l.length
    · rw [if_pos h1, takeK_eq]
      by_cases h2 : n * sz ≤ (l.drop o).length
      · rw [if_pos h2]; simp only [if_pos (And.intro h1 h2)]
      · rw [if_neg h2]; simp only [if_neg (fun h : o ≤ l.length ∧ n * sz ≤ (l.drop o).length => h2 h.2)]
    · rw [if_neg h1]; simp only [if_neg (fun h : o ≤ l.length ∧ n * sz ≤ (l.drop o).length => h1 h.1)]
section
variable {L : P → Prop} {N hi : Nat} {j : J} {pv : P → Option Nat} {e : Env} {nx : P} {h : Hp} {a : Act} {w : World}
theorem Rel.alive_lt (R : Rel L N hi j pv e nx h a w) {k : P} {l : List DV} (hk : alive k h = some l) : k.n < nx.n := by
  rcases Nat.lt_or_ge k.n nx.n with h' | h'
  · exact h'
  · unfold alive at hk; rw [R.top k h'] at hk; cases hk
theorem Rel.slice (R : Rel L N hi j pv e nx h a w) {k : P} {o n : Nat} {cp : Option Nat} {sz : Nat} {v' : Value} (hv : XD j pv (.sl k o n cp sz) v') {l : List DV} (hk : alive k h = some l) :
    ∃ b s ad cap, v' = .slice (some ad) n cap ∧ capR cp n cap ∧ (0 < n → ad = ⟨b, s + o, none⟩) ∧ CellsAt j w b s l := by
  have hlt := R.alive_lt hk
  unfold alive at hk
  cases (hv : VR j _ _) with
  | slA h1 ho hc hs he =>
    obtain ⟨_, l', hg, _, hcells⟩ := R.heap k _ h1 hlt
    simp only [hg, Option.some.injEq] at hk; subst hk
    exact ⟨_, _, _, _, rfl, hc, fun hn => by rw [ho (.inl hn)], hcells⟩
  | slO h1 ho hc =>
    obtain ⟨l', hg, _, hcells⟩ := R.heap k _ h1 hlt
    simp only [hg, Option.some.injEq] at hk; subst hk
    exact ⟨_, _, _, _, rfl, hc, fun hn => by rw [ho (.inl hn)], hcells⟩
  | slE ad h1 hc _ =>
    obtain ⟨l', hg, _, hcells⟩ := R.heap k _ h1 hlt
    simp only [hg, Option.some.injEq] at hk; subst hk
    exact ⟨_, _, _, _, rfl, hc, fun hn => absurd hn (by omega), hcells⟩
  | slD a h1 hc =>
    have hg : Tr.get? k h = some .dead := R.heap k _ h1 hlt
    simp [hg] at hk
theorem Rel.slice_cells (R : Rel L N hi j pv e nx h a w) {Pr : Program} {k : P} {o n : Nat} {cp : Option Nat} {sz : Nat} {v' : Value} (hv : XD j pv (.sl k o n cp sz) v') {c : List DV} (hs : slcV h k o n sz = some c) :
    ∃ vs : List Value, VRs j c vs ∧ vs.length = n * sz ∧ (∀ W : World, (Builtin.lenOf v').run Pr W = .ok n W) ∧ ∀ d : Nat, (Builtin.firstCells sz n v').run Pr { w with drawn := d } = .ok vs.toArray { w with drawn := d } := by
  unfold slcV at hs
  cases hk : alive k h with
  | none => simp [hk] at hs
  | some l =>
    simp only [hk] at hs
    by_cases hc : o ≤ l.length ∧ n * sz ≤ (l.drop o).length
    case neg => rw [if_neg hc] at hs; cases hs
    rw [if_pos hc] at hs
    simp only [Option.some.injEq] at hs; subst hs
    obtain ⟨b, s, ad, cap, rfl, hcap, hoff, hcells⟩ := R.slice hv hk
    obtain ⟨vs, h1, h2, h3⟩ := hcells.part o (n * sz) hc.2
    refine ⟨vs, h1, h2, fun W => rfl, fun d => ?_⟩
    by_cases hn : 0 < n
    · rw [hoff hn]
      refine run_firstCells h2 ?_
      intro i v hv
      exact h3 i v hv
    · have hn0 : n = 0 := by omega
      subst hn0
      have : vs = [] := List.eq_nil_of_length_eq_zero (by simpa using h2)
      subst this
      have hz := run_loadCells_list (P := Pr) { w with drawn := d } ad [] (fun q v hv => by simp at hv)
      rw [show ([] : List Value).length = 0 * sz by simp] at hz
      exact hz
end
theorem take_three (ovs nvs : List Value) (z : Array Value) {k : Nat} (h : ovs.length + nvs.length = k) : (ovs.toArray ++ nvs.toArray ++ z).toList.take k = ovs ++ nvs := by
  rw [Array.toList_append, Array.toList_append]
  exact List.take_left' (by simp; omega)
theorem zeroCells_size (z : Array Value) (n : Nat) : (Builtin.zeroCells z n).size = n * z.size := by simp [Builtin.zeroCells]
section
variable {Pr : Program} {o : Oper} {e : Env} {nx : P} {h : Hp} {ds dx : Opd} {x y : Operand} {t t' sz bt el : Nat} {it : TypeInfo} {zv : Value}
theorem exec_append (ho : o.op = .call ⟨.builtin .append, #[x, y], #[t, t']⟩) (ρ : Operand → Value) (w : World) {v : Value} {w' : World}
    (hr : (Builtin.append_ #[t, t'] o.type #[ρ x, ρ y]).run Pr w = .ok v w') : (execOp ρ o).run Pr w = .ok (.value v) w' := by
  simp only [execOp, ho, resolve, Sem.run_bind, Sem.run_pure, Result.andThen_ok, invoke, builtin]
  simp only [List.map_toArray, List.map_cons, List.map_nil]
  rw [hr]; rfl
theorem run_append_zero (A : AppOk Pr sz bt t t' el it zv) {w : World} {base : Option Addr} {sLen sCap : Nat} {v : Value} {ty : Nat} (hx : ∀ W : World, (Builtin.lenOf v).run Pr W = .ok 0 W)
    (hnew : (Builtin.firstCells sz 0 v).run Pr w = .ok #[] w) (hle : sLen ≤ sCap) : (Builtin.append_ #[t, t'] ty #[.slice base sLen sCap, v]).run Pr w = .ok (.slice base sLen sCap) w := by
  obtain ⟨el', hu'⟩ := A.hu'
  have hso : ∀ W : World, (sizeOf el).run Pr W = .ok sz W := by intro W; simp [sizeOf, typeInfo, A.hi, A.hs]
  simp only [Builtin.append_, Sem.run_bind, run_underlying A.hu, Result.andThen_ok, hso, List.getElem?_toArray, List.getElem?_cons_zero, List.getElem?_cons_succ, run_underlying hu', Sem.run_pure, hx]
  cases base <;> simp [hle, hnew, hx, storeCells]
theorem memOk_app0 (ho : o.op = .call ⟨.builtin .append, #[x, y], #[t, t']⟩) (hs : chkOpd ds x = true) (hx : chkOpd dx y = true) (A : AppOk Pr sz bt t t' el it zv)
    (hsv : (ev ds e = .nils) ∨ ∃ b o n c s, ev ds e = .sl b o n c s) (hxv : (ev dx e = .nils) ∨ ∃ b o c, ev dx e = .sl b o 0 c sz ∧ slcV h b o 0 sz = some []) : MemOk Pr o e nx h e (ev ds e) nx h := by
  intro L N hi j pv a w R _
  have r1 := R.reads ds x hs
  have r2 := R.reads dx y hx
  have key : ∃ base n c, a.eval x = .slice base n c ∧ n ≤ c := by
    rcases hsv with hsv | ⟨b, o', n, c, s, hsv⟩
    · rw [hsv] at r1; exact ⟨none, 0, 0, r1.nils, Nat.le_refl _⟩
    · rw [hsv] at r1; obtain ⟨ad, cap, h1, h2⟩ := r1.sl; exact ⟨some ad, n, cap, h1, h2.1⟩
  obtain ⟨base, n, c, hxe, hle⟩ := key
  have key2 : (∀ W : World, (Builtin.lenOf (a.eval y)).run Pr W = .ok 0 W) ∧ (Builtin.firstCells sz 0 (a.eval y)).run Pr w = .ok #[] w := by
    rcases hxv with hxv | ⟨b, o', c', hxv, hsl⟩
    · rw [hxv] at r2; rw [r2.nils]; exact ⟨fun _ => rfl, rfl⟩
    · rw [hxv] at r2
      obtain ⟨vs, h1, h2, h3, h4⟩ := R.slice_cells (Pr := Pr) r2 hsl
      cases h1
      exact ⟨h3, h4 w.drawn⟩
  refine ⟨j, w, _, a.eval x, exec_append ho a.eval w ?_, .inl rfl, R, Fr.refl _ _ _ _ _, r1⟩
  rw [hxe]
  exact run_append_zero A key2.1 key2.2 hle
theorem memOk_appNew (ho : o.op = .call ⟨.builtin .append, #[x, y], #[t, t']⟩) (hs : chkOpd ds x = true) (hx : chkOpd dx y = true) (A : AppOk Pr sz bt t t' el it zv) {b2 : P} {o2 m : Nat} {c2 : Option Nat} {old new : List DV} {n : Nat}
    (hsv : (ev ds e = .nils ∧ n = 0 ∧ old = [] ∧ 0 < m) ∨ ∃ b o' c, ev ds e = .sl b o' n (some c) sz ∧ slcV h b o' n sz = some old ∧ c < n + m)
    (hxv : ev dx e = .sl b2 o2 m c2 sz) (hnew : slcV h b2 o2 m sz = some new) (hbig : (n + m) * bt ≤ 35184372088832) :
    MemOk Pr o e nx h e (.sl nx 0 (n + m) none sz) nx.suc (Tr.set nx h (some (.cells (old ++ new)))) := by
  intro L N hi j pv a w R hnh
  rw [P.n_suc] at hnh
  have r1 := R.reads ds x hs
  have r2 := R.reads dx y hx
  rw [hxv] at r2
  obtain ⟨nvs, n1, n2, n3, n4⟩ := R.slice_cells (Pr := Pr) r2 hnew
  have key : ∃ (base : Option Addr) (cap : Nat) (ovs : List Value), a.eval x = .slice base n cap ∧ cap < n + m ∧ VRs j old ovs ∧ ovs.length = n * sz ∧ ∀ d : Nat, (Builtin.firstCells sz n (.slice base n cap)).run Pr { w with drawn := d } = .ok ovs.toArray { w with drawn := d } := by
    rcases hsv with ⟨hsv, rfl, rfl, hm⟩ | ⟨b, o', c, hsv, hold, hlt⟩
    · rw [hsv] at r1; exact ⟨none, 0, [], r1.nils, by omega, .nil, by simp, fun d => rfl⟩
    · rw [hsv] at r1
      obtain ⟨ovs, h1, h2, h3, h4⟩ := R.slice_cells (Pr := Pr) r1 hold
      obtain ⟨ad, cap, hxe, hcap⟩ := r1.sl
      refine ⟨some ad, cap, ovs, hxe, by rw [hcap.2 c rfl]; exact hlt, h1, h2, ?_⟩
      rw [← hxe]; exact h4
  obtain ⟨base, cap, ovs, hxe, hroom, o1, o2', o3⟩ := key
  obtain ⟨newCap, d, hcap, hrun⟩ := run_append_out A (ty := o.type) n3 o3 n4 hroom hbig
  have R' := R.drew d
  have hcs : (ovs.toArray ++ nvs.toArray ++ Builtin.zeroCells zv.cells (newCap - (n + m))).size = newCap * sz := by
    simp only [Array.size_append, List.size_toArray, o2', n2, zeroCells_size, A.hzs]
    rw [← Nat.add_mul, ← Nat.add_mul]; congr 1; omega
  have hlen : (old ++ new).length = (n + m) * sz := by rw [List.length_append, o1.length, n1.length, o2', n2, Nat.add_mul]
  have hle : (n + m) * sz ≤ newCap * sz := Nat.mul_le_mul_right _ hcap
  obtain ⟨R2, F2⟩ := R'.alloc (t := el) (cs := ovs.toArray ++ nvs.toArray ++ Builtin.zeroCells zv.cells (newCap - (n + m))) (l := old ++ new) (by omega) (by
      rw [hlen]
      rw [take_three ovs nvs _ (by rw [o2', n2, Nat.add_mul])]
      exact o1.append n1) (by rw [hcs, hlen]; exact hle)
  refine ⟨_, _, _, _, exec_append ho a.eval w (by rw [hxe]; exact hrun), .inl rfl, R2, (Fr.drew hi nx.n j pv w d).trans F2 (Nat.le_refl _), ?_⟩
  refine VR.slA (s := 0) (J.put_self _ _ _) (fun _ => rfl) ⟨hcap, fun c hc => by cases hc⟩ (Nat.le_refl _) ?_
  rw [hcs]; omega
theorem memOk_appKill (ho : o.op = .call ⟨.builtin .append, #[x, y], #[t, t']⟩) (hs : chkOpd ds x = true) (hx : chkOpd dx y = true) (A : AppOk Pr sz bt t t' el it zv) {b b2 : P} {o1 o2 n m : Nat} {c2 : Option Nat} {l new : List DV}
    (hsv : ev ds e = .sl b o1 n none sz) (hg : Tr.get? b h = some (.cells l)) (hol : o1 ≤ l.length) (hnl : n * sz ≤ (l.drop o1).length) (hm : 0 < m)
    (hxv : ev dx e = .sl b2 o2 m c2 sz) (hnew : slcV h b2 o2 m sz = some new) (hbig : (n + m) * bt ≤ 35184372088832) :
    MemOk Pr o e nx h e (.sl nx 0 (n + m) none sz) nx.suc (Tr.set nx (Tr.set b h (some .dead)) (some (.cells ((l.drop o1).take (n * sz) ++ new)))) := by
  intro L N hi j pv a w R hnh
  rw [P.n_suc] at hnh
  have r1 := R.reads ds x hs
  have r2 := R.reads dx y hx
  rw [hxv] at r2
  rw [hsv] at r1
  have hblt : b.n < nx.n := by
    rcases Nat.lt_or_ge b.n nx.n with h' | h'
    · exact h'
    · rw [R.top b h'] at hg; cases hg
  have hslc : slcV h b o1 n sz = some ((l.drop o1).take (n * sz)) := by unfold slcV alive; rw [hg]; simp only [if_pos (And.intro hol hnl)]
  obtain ⟨nvs, n1, n2, n3, n4⟩ := R.slice_cells (Pr := Pr) r2 hnew
  obtain ⟨ovs, q1, q2, q3, q4⟩ := R.slice_cells (Pr := Pr) r1 hslc
  generalize hxe : a.eval x = v' at r1 q3 q4
  have r1' : VR j (.sl b o1 n none sz) v' := r1
  cases r1' with
  | slO h1 _ _ => obtain ⟨l', hg', _⟩ := R.heap b _ h1 hblt; rw [hg] at hg'; cases hg'
  | slE _ h1 _ _ => obtain ⟨l', hg', _⟩ := R.heap b _ h1 hblt; rw [hg] at hg'; cases hg'
  | slD _ h1 _ => have hg' : Tr.get? b h = some .dead := R.heap b _ h1 hblt; rw [hg] at hg'; cases hg'
  | slA hjb hoff hcap hsl hfit =>
    rename_i bb s c off cap
    obtain ⟨hlies, l', hg', _, hcells⟩ := R.heap b _ hjb hblt
    rw [hg] at hg'; cases hg'
    by_cases hroom : n + m ≤ cap
    ·
      have hmul : (n + m) * sz ≤ cap * sz := Nat.mul_le_mul_right _ hroom
      have hmul2 : (n + m) * sz = n * sz + m * sz := Nat.add_mul _ _ _
      have hrun := run_append_in A (w := w) (b := bb) (off := off) (sLen := n) (sCap := cap) (ty := o.type) n3 (n4 w.drawn) hroom n1.ones
        (fun i hi' => by rw [Nat.add_assoc]; exact hlies.cell _ (by omega)) (fun i hi' => by rw [Nat.add_assoc]; exact hlies.free _ (by omega) (by omega))
      have hold : CellsAt j w bb off ((l.drop o1).take (n * sz)) := by
        intro i v hi'
        rw [List.getElem?_take] at hi'
        by_cases hin : i < n * sz
        · rw [if_pos hin, List.getElem?_drop] at hi'
          have hn0 : 0 < n := by rcases Nat.eq_zero_or_pos n with h0 | h0; · rw [h0, Nat.zero_mul] at hin; omega
                                 · exact h0
          rw [hoff (.inl hn0), show s + o1 + i = s + (o1 + i) by omega]
          exact hcells _ _ hi'
        · rw [if_neg hin] at hi'; cases hi'
      have hol2 : ((l.drop o1).take (n * sz)).length = n * sz := by rw [List.length_take]; omega
      obtain ⟨R', F'⟩ := R.take_over (by omega) hblt hjb hold n1 hsl (by rw [hol2, n1.length]; omega)
      rw [hol2] at R' F'
      refine ⟨_, _, _, _, exec_append ho a.eval w (by rw [hxe]; exact hrun), .inl rfl, R', F', ?_⟩
      refine VR.slA (s := off) (J.put_self _ _ _) (fun _ => rfl) ⟨hroom, fun c hc => by cases hc⟩ (Nat.le_refl _) (by omega)
    ·
      obtain ⟨newCap, d, hncap, hrun⟩ := run_append_out A (ty := o.type) n3 q4 n4 (by omega) hbig
      have R' := R.drew d
      obtain ⟨R1, F1⟩ := R'.kill (by omega) hblt (by rw [hjb]; simp) (fun b' s' => by rw [hjb]; simp)
      have hcs : (ovs.toArray ++ nvs.toArray ++ Builtin.zeroCells zv.cells (newCap - (n + m))).size = newCap * sz := by
        simp only [Array.size_append, List.size_toArray, q2, n2, zeroCells_size, A.hzs]
        rw [← Nat.add_mul, ← Nat.add_mul]; congr 1; omega
      have hlen : ((l.drop o1).take (n * sz) ++ new).length = (n + m) * sz := by rw [List.length_append, q1.length, n1.length, q2, n2, Nat.add_mul]
      have hle : (n + m) * sz ≤ newCap * sz := Nat.mul_le_mul_right _ hncap
      have hext : Ext j (j.put b .dead) := Ext.put_dead
      obtain ⟨R2, F2⟩ := R1.alloc (t := el) (cs := ovs.toArray ++ nvs.toArray ++ Builtin.zeroCells zv.cells (newCap - (n + m))) (l := (l.drop o1).take (n * sz) ++ new) (by omega) (by
          rw [hlen]
          rw [take_three ovs nvs _ (by rw [q2, n2, Nat.add_mul])]
          exact (q1.append n1).mono hext) (by rw [hcs, hlen]; exact hle)
      refine ⟨_, _, _, _, exec_append ho a.eval w (by rw [hxe]; exact hrun), .inl rfl, R2, ((Fr.drew hi nx.n j pv w d).trans F1 (Nat.le_refl _)).trans F2 (Nat.le_refl _), ?_⟩
      refine VR.slA (s := 0) (J.put_self _ _ _) (fun _ => rfl) ⟨hncap, fun c hc => by cases hc⟩ (Nat.le_refl _) ?_
      rw [hcs]; omega
theorem memOk_appIn (ho : o.op = .call ⟨.builtin .append, #[x, y], #[t, t']⟩) (hs : chkOpd ds x = true) (hx : chkOpd dx y = true) (A : AppOk Pr sz bt t t' el it zv) {b b2 : P} {o1 o2 n m c : Nat} {c2 : Option Nat} {l new : List DV}
    (hsv : ev ds e = .sl b o1 n (some c) sz) (hg : Tr.get? b h = some (.cells l)) (hm : 0 < m) (hroom : n + m ≤ c) (hfit : o1 + n * sz + new.length ≤ l.length)
    (hxv : ev dx e = .sl b2 o2 m c2 sz) (hnew : slcV h b2 o2 m sz = some new) :
    MemOk Pr o e nx h e (.sl b o1 (n + m) (some c) sz) nx (Tr.set b h (some (.cells (l.take (o1 + n * sz) ++ new ++ l.drop (o1 + n * sz + new.length))))) := by
  intro L N hi j pv a w R hnh
  have r1 := R.reads ds x hs
  have r2 := R.reads dx y hx
  rw [hxv] at r2
  rw [hsv] at r1
  have hblt : b.n < nx.n := by
    rcases Nat.lt_or_ge b.n nx.n with h' | h'
    · exact h'
    · rw [R.top b h'] at hg; cases hg
  obtain ⟨nvs, n1, n2, n3, n4⟩ := R.slice_cells (Pr := Pr) r2 hnew
  generalize hxe : a.eval x = v' at r1
  have r1' : VR j (.sl b o1 n (some c) sz) v' := r1
  cases r1' with
  | slO h1 _ _ => obtain ⟨l', hg', _⟩ := R.heap b _ h1 hblt; rw [hg] at hg'; cases hg'
  | slE _ h1 _ _ => obtain ⟨l', hg', _⟩ := R.heap b _ h1 hblt; rw [hg] at hg'; cases hg'
  | slD _ h1 _ => have hg' : Tr.get? b h = some .dead := R.heap b _ h1 hblt; rw [hg] at hg'; cases hg'
  | slA hjb hoff hcap hsl hfit2 =>
    rename_i bb s cc off cap
    obtain ⟨hlies, l', hg', hll, hcells⟩ := R.heap b _ hjb hblt
    rw [hg] at hg'; cases hg'
    have hcc := hcap.2 c rfl
    subst hcc
    have hofe := hoff (.inr ⟨cap, rfl, by omega⟩)
    have hnl := n1.length
    have hrun := run_append_in A (w := w) (b := bb) (off := off) (sLen := n) (sCap := cap) (ty := o.type) n3 (n4 w.drawn) hroom n1.ones
        (fun i hi' => by rw [Nat.add_assoc]; exact hlies.cell _ (by omega)) (fun i hi' => by rw [Nat.add_assoc]; exact hlies.free _ (by omega) (by omega))
    obtain ⟨R', F'⟩ := R.at_store (o := o1 + n * sz) hnh hjb hblt hg n1 hfit
    rw [show s + (o1 + n * sz) = off + n * sz by omega] at R' F'
    refine ⟨j, _, _, _, exec_append ho a.eval w (by rw [hxe]; exact hrun), .inl rfl, R', F', ?_⟩
    exact VR.slA hjb (fun _ => hofe) ⟨hroom, fun c hc => by cases hc; rfl⟩ hsl hfit2
def chkApz (Pr : Program) (sz bt : Nat) (z : List DV) (t t' : Nat) : Bool :=
  match Pr.underlying t, Pr.underlying t' with
  | some (.slice el), some (.int _) => match Pr.info? el with
    | some it => match it.zero with
      | some zv => Nat.beq it.size sz && !Nat.beq sz 0 && Nat.beq it.bytes bt && !Nat.beq bt 0 && Nat.beq zv.cells.size sz && okCs z zv.cells.toList
      | none => false
    | none => false
  | _, _ => false
theorem zeroCells_reps {j : J} {z : List DV} {zs : Array Value} (h : VRs j z zs.toList) (n : Nat) : VRs j (reps z n) (Builtin.zeroCells zs n).toList := by
  have hl := h.length
  refine VRs.of_get ?_ ?_
  · simp [reps, Builtin.zeroCells] at hl ⊢; rw [hl]
  · intro i v hi
    have hlt := (List.getElem?_eq_some_iff.1 hi).1
    have hlen : (reps z n).length = n * z.length := by simp [reps]
    rw [hlen] at hlt
    have hz0 : 0 < z.length := by rcases Nat.eq_zero_or_pos z.length with h0 | h0; · rw [h0, Nat.mul_zero] at hlt; omega
                                  · exact h0
    have hmod : z[i % z.length]? = some v := by
      rw [← hi]
      clear hi
      induction n generalizing i with
      | zero => rw [Nat.zero_mul] at hlt; omega
      | succ n ih =>
        show _ = (z ++ reps z n)[i]?
        by_cases h1 : i < z.length
        · rw [List.getElem?_append_left h1, Nat.mod_eq_of_lt h1]
        · rw [List.getElem?_append_right (by omega), ← ih (i - z.length) (by rw [Nat.succ_mul] at hlt; omega) (by simp [reps])]
          rw [Nat.mod_eq_sub_mod (by omega)]
    obtain ⟨v', hv', hr⟩ := h.get _ v hmod
    refine ⟨v', ?_, hr⟩
    simp only [Builtin.zeroCells, Array.getElem?_toList, Array.getElem?_map, Array.length_toList] at hl hv' ⊢
    rw [Array.getElem?_range, if_pos (by rw [← hl]; exact hlt)]
    simp only [Option.map_some, Option.some.injEq]
    rw [hl] at hv'
    rw [getElem!_def, hv']
theorem memOk_apz (ho : o.op = .call ⟨.builtin .append, #[x, y], #[t, t']⟩) (hs : chkOpd ds x = true) (hx : chkOpd dx y = true) {z : List DV} (hc : chkApz Pr sz bt z t t' = true) {k : IntKind} {n : Nat}
    (hsv : ev ds e = .nils) (hxv : ev dx e = .int k n) (hn : n ≠ 0) (hbig : n * bt ≤ 1073741824) : MemOk Pr o e nx h e (.sl nx 0 n none sz) nx.suc (Tr.set nx h (some (.cells (reps z n)))) := by
  intro L N hi j pv a w R hnh
  rw [P.n_suc] at hnh
  have r1 := R.reads ds x hs
  have r2 := R.reads dx y hx
  rw [hxv] at r2; rw [hsv] at r1
  have hxe := r1.nils
  have hye := r2.int
  unfold chkApz at hc
  cases hu : Pr.underlying t with
  | none => simp [hu] at hc
  | some d =>
    cases hu' : Pr.underlying t' with
    | none => cases d <;> simp [hu, hu'] at hc
    | some d' =>
      cases d <;> cases d' <;> simp only [hu, hu', Bool.false_eq_true] at hc
      rename_i el ik
      cases hit : Pr.info? el with
      | none => simp [hit] at hc
      | some it =>
        cases hz : it.zero with
        | none => simp [hit, hz] at hc
        | some zv =>
          simp only [hit, hz, Bool.and_eq_true, Nat.beq_eq, Bool.not_eq_true'] at hc
          obtain ⟨⟨⟨⟨⟨h1, h2⟩, h3⟩, h4⟩, h5⟩, h6⟩ := hc
          subst h1; subst h3
          have hs0 : it.size ≠ 0 := fun h0 => by rw [h0] at h2; exact absurd h2 (by decide)
          have hb0 : it.bytes ≠ 0 := fun h0 => by rw [h0] at h4; exact absurd h4 (by decide)
          obtain ⟨newCap, dd, hcap, hrun⟩ := run_append_zeros (Pr := Pr) (t := t) (t' := t') (ty := o.type) (k := k) hu hu' hit hz hs0 hb0 (w := w) hn hbig
          have hzr := zeroCells_reps (okCs_sound j _ _ h6) n
          have hcs : (#[] ++ Builtin.zeroCells zv.cells n ++ Builtin.zeroCells zv.cells (newCap - n)).size = newCap * it.size := by
            simp only [Array.size_append, Array.size_empty, zeroCells_size, h5, Nat.zero_add]
            rw [← Nat.add_mul]; congr 1; omega
          have hrl := hzr.length
          have hrl2 : (reps z n).length = n * it.size := by rw [hrl, Array.length_toList, zeroCells_size, h5]
          have hle : n * it.size ≤ newCap * it.size := Nat.mul_le_mul_right _ hcap
          obtain ⟨R2, F2⟩ := (R.drew dd).alloc (t := el) (cs := #[] ++ Builtin.zeroCells zv.cells n ++ Builtin.zeroCells zv.cells (newCap - n)) (l := reps z n) (by omega) (by
            have : (#[] ++ Builtin.zeroCells zv.cells n ++ Builtin.zeroCells zv.cells (newCap - n)).toList.take (reps z n).length = (Builtin.zeroCells zv.cells n).toList := by
              rw [hrl]; simp
            rw [this]; exact hzr) (by rw [hcs, hrl2]; exact hle)
          refine ⟨_, _, _, _, exec_append ho a.eval w (by rw [hxe, hye]; exact hrun), .inl rfl, R2, (Fr.drew hi nx.n j pv w dd).trans F2 (Nat.le_refl _), ?_⟩
          refine VR.slA (s := 0) (J.put_self _ _ _) (fun _ => rfl) ⟨hcap, fun c hc => by cases hc⟩ (Nat.le_refl _) ?_
          rw [hcs]; omega
theorem memOk_apz0 (ho : o.op = .call ⟨.builtin .append, #[x, y], #[t, t']⟩) (hs : chkOpd ds x = true) (hx : chkOpd dx y = true) {z : List DV} (hc : chkApz Pr sz bt z t t' = true) {k : IntKind}
    (hsv : ev ds e = .nils) (hxv : ev dx e = .int k 0) : MemOk Pr o e nx h e .nils nx h := by
  intro L N hi j pv a w R hnh
  have r1 := R.reads ds x hs
  have r2 := R.reads dx y hx
  rw [hxv] at r2; rw [hsv] at r1
  have hxe := r1.nils
  have hye := r2.int
  unfold chkApz at hc
  cases hu : Pr.underlying t with
  | none => simp [hu] at hc
  | some d =>
    cases hu' : Pr.underlying t' with
    | none => cases d <;> simp [hu, hu'] at hc
    | some d' =>
      cases d <;> cases d' <;> simp only [hu, hu', Bool.false_eq_true] at hc
      rename_i el ik
      cases hit : Pr.info? el with
      | none => simp [hit] at hc
      | some it =>
        have hso : ∀ W : World, (sizeOf el).run Pr W = .ok it.size W := by intro W; simp [sizeOf, typeInfo, hit]
        have hti : ∀ W : World, (typeInfo el).run Pr W = .ok it W := by intro W; simp [typeInfo, hit]
        have hw : IntKind.i64.wrap 0 = 0 := wrap_of_fits rfl
        refine ⟨j, w, _, .slice none 0 0, exec_append ho a.eval w ?_, .inl rfl, R, Fr.refl _ _ _ _ _, VR.nils⟩
        rw [hxe, hye]
        simp only [Builtin.append_, Sem.run_bind, run_underlying hu, Result.andThen_ok, hso, List.getElem?_toArray, List.getElem?_cons_zero, List.getElem?_cons_succ, run_underlying hu', Sem.run_pure]
        simp [asInt, asIntOf, hw, hti]
end
def chkMsl (Pr : Program) (sz bt : Nat) (z : List DV) (t : Nat) : Bool :=
  match Pr.underlying t with
  | some (.slice el) => match Pr.info? el with
    | some it => match it.zero with
      | some zv => Nat.beq it.size sz && !Nat.beq sz 0 && Nat.beq it.bytes bt && !Nat.beq bt 0 && Nat.beq zv.cells.size sz && okCs z zv.cells.toList
      | none => false
    | none => false
  | _ => false
theorem run_msl {Pr : Program} {w : World} {t el : Nat} {it : TypeInfo} {zv : Value} (hu : Pr.underlying t = some (.slice el)) (hit : Pr.info? el = some it) (hz : it.zero = some zv) (hs : zv.cells.size = it.size) (hb : it.bytes ≠ 0)
    {kl kc : IntKind} {n c : Nat} (hnc : n ≤ c) (hle : it.bytes * c ≤ 1073741824) :
    (Instr.makeSlice t (.int kl n) (.int kc c)).run Pr w = .ok (.slice (some ⟨w.heap.size, 0, none⟩) n c) (w.alloc (.cells (Builtin.zeroCells zv.cells c) el)) := by
  have hc1 : c ≤ it.bytes * c := Nat.le_mul_of_pos_left _ (Nat.pos_of_ne_zero hb)
  have wl : IntKind.i64.wrap (n : Int) = n := by rw [IntKind.wrap_i64]; omega
  have wc : IntKind.i64.wrap (c : Int) = c := by rw [IntKind.wrap_i64]; omega
  have n1 : ¬ (c : Int) < 0 := by omega
  have hci : (it.bytes : Int) * (c : Int) ≤ 1073741824 := by have := Int.ofNat_le.2 hle; rw [Int.natCast_mul] at this; omega
  have n2 : ¬ (281474976710656 < (it.bytes : Int) * (c : Int)) := by omega
  have n3 : ¬ (n : Int) < 0 := by omega
  have n4 : ¬ (c : Int) < (n : Int) := by omega
  have n5 : ¬ (140737488355328 < c * it.bytes) := by rw [Nat.mul_comm]; omega
  by_cases hn : c * it.size = 0
  · have hzc : Builtin.zeroCells zv.cells c = #[] := by
      apply Array.eq_empty_of_size_eq_zero; rw [zeroCells_size, hs, hn]
    have n6 : ¬ c < n := by omega
    rw [hzc]
    simp [Instr.makeSlice, run_underlying hu, asInt, asIntOf, typeInfo, hit, sizeOf, wl, wc, n1, n2, n3, n6, hn, newRow, askRoom, roomBytes]
    congr 2
    exact Array.eq_empty_of_size_eq_zero (by simp)
  · have n6 : ¬ c < n := by omega
    simp [Instr.makeSlice, run_underlying hu, asInt, asIntOf, typeInfo, hit, sizeOf, zeroValue, hz, wl, wc, n1, n2, n3, n6, hn, newRow, askRoom, roomBytes, Builtin.zeroCells, hs]
theorem memOk_msl {Pr : Program} {o : Oper} {e : Env} {nx : P} {h : Hp} {dl dc : Opd} {x y : Operand} {t sz bt : Nat} {z : List DV} (ho : o.op = .makeSlice t x y) (hl : chkOpd dl x = true) (hcp : chkOpd dc y = true)
    (hc : chkMsl Pr sz bt z t = true) {kl kc : IntKind} {n c : Nat} (hlv : ev dl e = .int kl n) (hcv : ev dc e = .int kc c) (hnc : n ≤ c) (hbig : bt * c ≤ 1073741824) :
    MemOk Pr o e nx h e (.sl nx 0 n (some c) sz) nx.suc (Tr.set nx h (some (.cells (reps z c)))) := by
  unfold chkMsl at hc
  cases hu : Pr.underlying t with
  | none => simp [hu] at hc
  | some d =>
    cases d <;> simp only [hu, Bool.false_eq_true] at hc
    rename_i el
    cases hit : Pr.info? el with
    | none => simp [hit] at hc
    | some it =>
      cases hz : it.zero with
      | none => simp [hit, hz] at hc
      | some zv =>
        simp only [hit, hz, Bool.and_eq_true, Nat.beq_eq, Bool.not_eq_true'] at hc
        obtain ⟨⟨⟨⟨⟨h1, h2⟩, h3⟩, h4⟩, h5⟩, h6⟩ := hc
        subst h1; subst h3
        have hb0 : it.bytes ≠ 0 := fun h0 => by rw [h0] at h4; exact absurd h4 (by decide)
        refine memOk_new (fun b => .slice (some ⟨b, 0, none⟩) n c) ?_
        intro L N hi j pv a w R
        have r1 := R.reads dl x hl
        have r2 := R.reads dc y hcp
        rw [hlv] at r1; rw [hcv] at r2
        refine ⟨Builtin.zeroCells zv.cells c, el, zeroCells_reps (okCs_sound j _ _ h6) c, ?_, fun j' hj' => ?_⟩
        · simp only [execOp, ho, r1.int, r2.int, Sem.run_bind, run_msl hu hit hz h5 hb0 hnc hbig, Result.andThen_ok, Sem.run_pure]
        · exact VR.slA hj' (fun _ => rfl) ⟨hnc, fun c hc => by cases hc; rfl⟩ (Nat.le_refl _) (by rw [zeroCells_size, h5, Nat.zero_add]; exact Nat.le_refl _)
def chkBsl0 (Pr : Program) (len sz : Nat) (z : List DV) (ps : List (Nat × Nat × Opd)) (t n : Nat) (qs : List (Nat × Operand)) : Bool :=
  match z, ps, qs with
  | [], [], [] => match Pr.underlying t with
    | some (.slice el) => match Pr.info? el with
      | some ie => Nat.beq ie.size sz && Nat.beq n 0 && Nat.beq len 0
      | none => false
    | _ => false
  | _, _, _ => false
theorem memOk_bsl0 {Pr : Program} {o : Oper} {e : Env} {nx : P} {h : Hp} {len sz : Nat} {z c : List DV} {ps : List (Nat × Nat × Opd)} {t n : Nat} {qs : Array (Nat × Operand)} (ho : o.op = .buildSlice t n qs)
    (hc : chkBsl0 Pr len sz z ps t n qs.toList = true) (hf : fills e ps z = some c) : MemOk Pr o e nx h e (.sl nx 0 len (some len) sz) nx.suc (Tr.set nx h (some (.cells c))) := by
  unfold chkBsl0 at hc
  split at hc
  case h_2 => cases hc
  rename_i hq
  cases hu : Pr.underlying t with
  | none => simp [hu] at hc
  | some dt =>
    cases dt <;> simp only [hu, Bool.false_eq_true] at hc
    rename_i el
    cases hie : Pr.info? el with
    | none => simp [hie] at hc
    | some ie =>
      simp only [hie, Bool.and_eq_true, Nat.beq_eq] at hc
      obtain ⟨⟨rfl, rfl⟩, rfl⟩ := hc
      simp only [fills, Option.some.injEq] at hf
      subst hf
      have hq' : qs = #[] := by apply Array.toList_inj.1; exact hq
      subst hq'
      refine memOk_new (fun b => .slice (some ⟨b, 0, none⟩) 0 0) ?_
      intro L N hi' j pv a w R
      refine ⟨#[], el, .nil, ?_, fun j' hj' => ?_⟩
      · have e0 : (Array.map (fun (_ : Nat) => (default : Value)) (Array.range 0)) = #[] := Array.eq_empty_of_size_eq_zero (by simp)
        simp [execOp, ho, Instr.buildSlice, run_underlying hu, sizeOf, typeInfo, hie, newRow, Instr.fill, e0]
      · exact VR.slA hj' (fun _ => rfl) ⟨Nat.le_refl _, fun c hc => by cases hc; rfl⟩ (Nat.le_refl _) (by simp)
def chkClr (Pr : Program) (z : List DV) (t : Nat) : Bool :=
  match Pr.underlying t with
  | some (.slice el) => match Pr.info? el with
    | some it => match it.zero with
      | some zv => okCs z zv.cells.toList
      | none => false
    | none => false
  | _ => false
theorem chkClr_spec {Pr : Program} {z : List DV} {t : Nat} (h : chkClr Pr z t = true) : ∃ el it zv, Pr.underlying t = some (.slice el) ∧ Pr.info? el = some it ∧ it.zero = some zv ∧ okCs z zv.cells.toList = true := by
  unfold chkClr at h
  cases hu : Pr.underlying t with
  | none => simp [hu] at h
  | some d =>
    cases d <;> simp only [hu, Bool.false_eq_true] at h
    rename_i el
    cases hi : Pr.info? el with
    | none => simp [hi] at h
    | some it =>
      cases hz : it.zero with
      | none => simp [hi, hz] at h
      | some zv => simp only [hi, hz] at h; exact ⟨el, it, zv, rfl, hi, hz, h⟩
section
variable {Pr : Program} {o : Oper} {e : Env} {nx : P} {h : Hp} {d : Opd} {x : Operand} {t : Nat} {z : List DV}
theorem exec_clear (ho : o.op = .call ⟨.builtin .clear, #[x], #[t]⟩) (ρ : Operand → Value) (w : World) {v : Value} {w' : World}
    (hr : (Builtin.clear_ #[t] o.type #[ρ x]).run Pr w = .ok v w') : (execOp ρ o).run Pr w = .ok (.value v) w' := by
  simp only [execOp, ho, resolve, Sem.run_bind, Sem.run_pure, Result.andThen_ok, invoke, builtin]
  simp only [List.map_toArray, List.map_cons, List.map_nil]
  rw [hr]; rfl
theorem memOk_clr0 (ho : o.op = .call ⟨.builtin .clear, #[x], #[t]⟩) (hd : chkOpd d x = true) (hc : chkClr Pr z t = true)
    (hev : ev d e = .nils ∨ ∃ b o c s, ev d e = .sl b o 0 c s) : MemOk Pr o e nx h e (.tup []) nx h := by
  intro L N hi j pv a w R _
  obtain ⟨el, it, zv, hu, hi', hz, hok⟩ := chkClr_spec hc
  have r1 := R.reads d x hd
  have key : ∃ base c, a.eval x = .slice base 0 c := by
    rcases hev with hev | ⟨b, o', c, s, hev⟩
    · rw [hev] at r1; exact ⟨none, 0, r1.nils⟩
    · rw [hev] at r1; obtain ⟨ad, cap, h1, _⟩ := r1.sl; exact ⟨some ad, cap, h1⟩
  obtain ⟨base, c, hxe⟩ := key
  refine ⟨j, w, _, .tuple #[], exec_clear ho a.eval w ?_, .inl rfl, R, Fr.refl _ _ _ _ _, VR.tup (l' := []) .nil⟩
  rw [hxe]
  simp only [Builtin.clear_, Sem.run_bind, Sem.run_pure, Result.andThen_ok, List.getElem?_toArray, List.getElem?_cons_zero, run_underlying hu]
  cases base <;> simp
theorem memOk_clr (ho : o.op = .call ⟨.builtin .clear, #[x], #[t]⟩) (hd : chkOpd d x = true) (hc : chkClr Pr z t = true) {k : P} {o' n : Nat} {cp : Option Nat} {sz : Nat} {l : List DV}
    (hev : ev d e = .sl k o' n cp sz) (hn : 0 < n) (hg : Tr.get? k h = some (.cells l)) (hle : o' + (reps z n).length ≤ l.length) :
    MemOk Pr o e nx h e (.tup []) nx (Tr.set k h (some (.cells (l.take o' ++ reps z n ++ l.drop (o' + (reps z n).length))))) := by
  intro L N hi j pv a w R hnh
  obtain ⟨el, it, zv, hu, hi', hz, hok⟩ := chkClr_spec hc
  have hx := R.reads d x hd
  rw [hev] at hx
  have hlt : k.n < nx.n := by
    rcases Nat.lt_or_ge k.n nx.n with h' | h'
    · exact h'
    · rw [R.top k h'] at hg; cases hg
  have hcs : VRs j (reps z n) (Builtin.zeroCells zv.cells n).toList := zeroCells_reps (okCs_sound j z _ hok) n
  have hlen := hcs.length
  generalize hxe : a.eval x = v' at hx
  cases (hx : VR j _ _) with
  | slO hjk => obtain ⟨_, hg', _⟩ := R.heap k _ hjk hlt; rw [hg] at hg'; cases hg'
  | slD _ hjk => have hg' : Tr.get? k h = some .dead := R.heap k _ hjk hlt; rw [hg] at hg'; cases hg'
  | slE => omega
  | slA hjk hoff =>
    rename_i b s cc off cap h1 h2 h3
    obtain ⟨hlies, l', hg', hll, _⟩ := R.heap k _ hjk hlt
    rw [hg] at hg'; cases hg'
    obtain ⟨R', F'⟩ := R.at_store hnh hjk hlt hg hcs hle
    have hso := hoff (.inl hn)
    subst hso
    refine ⟨j, _, _, .tuple #[], exec_clear ho a.eval w (w' := w.setCells b (s + o') (Builtin.zeroCells zv.cells n).toList) ?_, .inl rfl, R', F', VR.tup (l' := []) .nil⟩
    have hst := run_storeCells_cells (P := Pr) b (s + o') (Builtin.zeroCells zv.cells n).toList 0 w (fun q hq => by simpa using hlies.cell (s + o' + q) (by omega)) (fun q hq => by simpa using hlies.free (s + o' + q) (by omega) (by omega)) hcs.ones
    have hzv : ∀ W : World, (zeroValue el).run Pr W = .ok zv W := by intro W; simp [zeroValue, typeInfo, hi', hz]
    rw [hxe]
    obtain ⟨m, rfl⟩ : ∃ m, n = m + 1 := ⟨n - 1, by omega⟩
    simp only [Nat.add_zero] at hst
    simp only [Builtin.clear_, Sem.run_bind, Sem.run_pure, Result.andThen_ok, List.getElem?_toArray, List.getElem?_cons_zero, run_underlying hu, hzv]
    simp [hst]
end
def OpOk (Pr : Program) (o : Oper) (e : Env) (nx : P) (h : Hp) (e' : Env) (v : DV) (nx' : P) (h' : Hp) : Prop :=
  ∀ (L : P → Prop) (N hi : Nat) (j : J) (pv : P → Option Nat) (a : Act) (w : World), Rel L N hi j pv e nx h a w → nx'.n ≤ hi → ∀ (K : Act → World → Prop) (Q : Exit → Act → World → Prop),
    (∀ j' w' v', Rel L N hi j' pv e' nx' h' a w' → Fr hi nx.n j pv w j' pv w' → XD j' pv v v' → K (a.put o.dst v') w') → o.wp Pr a w K Q
theorem MemOk.op {Pr : Program} {o : Oper} {e : Env} {nx : P} {h : Hp} {e' : Env} {v : DV} {nx' : P} {h' : Hp} (H : MemOk Pr o e nx h e' v nx' h') : OpOk Pr o e nx h e' v nx' h' := by
  intro L N hi j pv a w R hnh K Q hK
  obtain ⟨j', w', nxt, v', hrun, hn, R', F', hx⟩ := H L N hi j pv a w R hnh
  unfold Oper.wp
  rw [hrun]
  rcases hn with rfl | ⟨rfl, rfl⟩
  · exact hK j' w' v' R' F' hx
  · exact hK j' w' undef R' F' hx
structure Moves (wm : Option P) (e : Env) (nx : P) (h : Hp) (e' : Env) (nx' : P) (h' : Hp) : Prop where
  le : nx.n ≤ nx'.n
  env : ∀ p, Tr.get? p e' = Tr.get? p e ∨ ∃ l l', Tr.get? p e = some (.var l) ∧ Tr.get? p e' = some (.var l') ∧ l'.length = l.length
  old : ∀ m, wm = some m → m.n ≤ nx.n → ∀ k : P, k.n < m.n → Tr.get? k h' = Tr.get? k h
  top : (∀ k : P, nx.n ≤ k.n → Tr.get? k h = none) → ∀ k : P, nx'.n ≤ k.n → Tr.get? k h' = none
theorem Moves.same (wm : Option P) (e : Env) (nx : P) (h : Hp) : Moves wm e nx h e nx h := ⟨Nat.le_refl _, fun _ => .inl rfl, fun _ _ _ _ _ => rfl, fun h => h⟩
theorem Moves.new {wm : Option P} {e : Env} {nx : P} {h : Hp} {x : Option Ob} : Moves wm e nx h e nx.suc (Tr.set nx h x) :=
  ⟨by rw [P.n_suc]; omega, fun _ => .inl rfl, fun m _ hm k hk => Tr.get_set_ne (by rintro rfl; omega) _ _, fun ht k hk => by
    rw [P.n_suc] at hk; rw [Tr.get_set_ne (by rintro rfl; omega)]; exact ht k (by omega)⟩
theorem Moves.put {wm : Option P} {e : Env} {nx : P} {h : Hp} {b : P} {x : Option Ob} {y : Ob} (hb : may wm b) (hg : Tr.get? b h = some y) : Moves wm e nx h e nx (Tr.set b h x) :=
  ⟨Nat.le_refl _, fun _ => .inl rfl, fun m hm _ k hk => Tr.get_set_ne (by rintro rfl; have := hb m hm; omega) _ _, fun ht k hk => by
    have := ht k hk
    rw [Tr.get_set_ne (by rintro rfl; rw [hg] at this; cases this)]; exact this⟩
theorem Moves.put_new {wm : Option P} {e : Env} {nx : P} {h : Hp} {b : P} {x y : Option Ob} {z : Ob} (hb : may wm b) (hg : Tr.get? b h = some z) : Moves wm e nx h e nx.suc (Tr.set nx (Tr.set b h x) y) :=
  ⟨by rw [P.n_suc]; omega, fun _ => .inl rfl, fun m hm hmn k hk => by
    rw [Tr.get_set_ne (by rintro rfl; omega), Tr.get_set_ne (by rintro rfl; have := hb m hm; omega)], fun ht k hk => by
    rw [P.n_suc] at hk
    have := ht k (by omega)
    rw [Tr.get_set_ne (by rintro rfl; omega), Tr.get_set_ne (by rintro rfl; rw [hg] at this; cases this)]; exact this⟩
theorem Moves.trans {wm : Option P} {e e' e'' : Env} {nx nx' nx'' : P} {h h' h'' : Hp} (m1 : Moves wm e nx h e' nx' h') (m2 : Moves wm e' nx' h' e'' nx'' h'') : Moves wm e nx h e'' nx'' h'' :=
  ⟨Nat.le_trans m1.le m2.le, fun p => by
      rcases m2.env p with h2 | ⟨l, l', h2, h3, h4⟩
      · rw [h2]; exact m1.env p
      · rcases m1.env p with h1 | ⟨l0, l1, h5, h6, h7⟩
        · exact .inr ⟨l, l', by rw [← h1]; exact h2, h3, h4⟩
        · rw [h6] at h2; cases h2; exact .inr ⟨_, _, h5, h3, by omega⟩,
    fun m hm hmn k hk => by rw [m2.old m hm (Nat.le_trans hmn m1.le) k hk, m1.old m hm hmn k hk], fun ht => m2.top (m1.top ht)⟩
def chkCall2 (c : Call) (b : Builtin) (f : Operand → Operand → Nat → Nat → Bool) : Bool :=
  match c with
  | ⟨.builtin b', ⟨[x, y]⟩, ⟨[t, t']⟩⟩ => decide (b' = b) && f x y t t'
  | _ => false
def chkCall1 (c : Call) (b : Builtin) (f : Operand → Nat → Bool) : Bool :=
  match c with
  | ⟨.builtin b', ⟨[x]⟩, ⟨[t]⟩⟩ => decide (b' = b) && f x t
  | _ => false
def chkMem (Pr : Program) (i : Ins) (op : Go.Op) : Bool :=
  match i, op with
  | .al z, .alloc t => match Pr.info? t with
    | some it => match it.zero with
      | some zv => okCs z zv.cells.toList
      | none => false
    | none => false
  | .bx d, .box _ x => chkOpd d x
  | .bsl len sz z ps, .buildSlice t n qs => chkBsl Pr len sz z ps t n qs.toList || chkBsl0 Pr len sz z ps t n qs.toList
  | .ld d, .load t x => chkOpd d x && aggIs Pr t false
  | .lda n d, .load t x => chkOpd d x && aggIs Pr t true && sizeIs Pr t n
  | .vla n d, .load t x => chkOpd d x && aggIs Pr t true && sizeIs Pr t n
  | .st n d v, .store t x y => chkOpd d x && chkOpd v y && sizeIs Pr t n
  | .msl sz bt z l c, .makeSlice t x y => chkOpd l x && chkOpd c y && chkMsl Pr sz bt z t
  | .app sz bt s x, .call c => chkCall2 c .append fun y y' t t' => chkOpd s y && chkOpd x y' && chkApp Pr sz bt t t'
  | .clr _ z d, .call c => chkCall1 c .clear fun x t => chkOpd d x && chkClr Pr z t
  | .apz sz bt z s n, .call c => chkCall2 c .append fun y y' t t' => chkOpd s y && chkOpd n y' && chkApz Pr sz bt z t t'
  | _, _ => false
theorem chkCall2_spec {c : Call} {b : Builtin} {f : Operand → Operand → Nat → Nat → Bool} (h : chkCall2 c b f = true) : ∃ x y t t', c = ⟨.builtin b, #[x, y], #[t, t']⟩ ∧ f x y t t' = true := by
  unfold chkCall2 at h
  split at h
  · rename_i b' x y t t'
    simp only [Bool.and_eq_true, decide_eq_true_eq] at h
    exact ⟨x, y, t, t', by rw [h.1], h.2⟩
  · cases h
theorem chkCall1_spec {c : Call} {b : Builtin} {f : Operand → Nat → Bool} (h : chkCall1 c b f = true) : ∃ x t, c = ⟨.builtin b, #[x], #[t]⟩ ∧ f x t = true := by
  unfold chkCall1 at h
  split at h
  · rename_i b' x t
    simp only [Bool.and_eq_true, decide_eq_true_eq] at h
    exact ⟨x, t, by rw [h.1], h.2⟩
  · cases h
section
variable {Pr : Program} {F : Tr Fd} {ih : Ih} {wm : Option P} {e : Env} {nx : P} {h : Hp} {k : Kv} {out : Out} {eo : Env} {no : P} {ho : Hp} {o : Oper}
def Step (Pr : Program) (o : Oper) (wm : Option P) (e : Env) (nx : P) (h : Hp) (k : Kv) (r : Res) : Prop :=
  ∃ e' v nx' h', k e' v nx' h' = r ∧ OpOk Pr o e nx h e' v nx' h' ∧ Moves wm e nx h e' nx' h'
theorem mem_app {sz bt : Nat} {s x : Opd} (H : insK (.app sz bt s x) F ih wm e nx h k = .ok out eo no ho) (hc : chkMem Pr (.app sz bt s x) o.op = true) : Step Pr o wm e nx h k (.ok out eo no ho) := by
  cases hop : o.op <;> simp only [chkMem, hop, Bool.false_eq_true] at hc
  rename_i c
  obtain ⟨y, y', t, t', rfl, hf⟩ := chkCall2_spec hc
  simp only [Bool.and_eq_true] at hf
  obtain ⟨⟨hs, hx⟩, hA⟩ := hf
  obtain ⟨el, it, zv, A⟩ := chkApp_spec hA
  change asSl (ev x e) (nilsK (ev x e) .fail fun _ => apX sz bt (ev s e) e nx h k wm (nat_lit 0) []) (fun b o n _ s2 => chk (Nat.beq s2 sz) fun _ => slcK h b o n sz fun new => apX sz bt (ev s e) e nx h k wm n new) = _ at H
  rw [asSl_eq, nilsK_eq] at H
  have zero : ∀ new, apX sz bt (ev s e) e nx h k wm 0 new = .ok out eo no ho → ((ev x e = .nils) ∨ ∃ b o c, ev x e = .sl b o 0 c sz ∧ slcV h b o 0 sz = some []) → Step Pr o wm e nx h k (.ok out eo no ho) := by
    intro new H' hxv
    change asSl (ev s e) (nilsK (ev s e) .fail fun _ => fV (ev s e) fun v => k e v nx h) (fun _ _ _ _ _ => fV (ev s e) fun v => k e v nx h) = _ at H'
    rw [asSl_eq, nilsK_eq] at H'
    have key : ∀ v, ev s e = v → ((ev s e = .nils) ∨ ∃ b o n c s', ev s e = .sl b o n c s') → fV v (fun v => k e v nx h) = .ok out eo no ho → Step Pr o wm e nx h k (.ok out eo no ho) := by
      intro v hv hsv H''
      rw [fV_eq, ← hv] at H''
      exact ⟨e, ev s e, nx, h, H'', (memOk_app0 hop hs hx A hsv hxv).op, Moves.same _ _ _ _⟩
    cases hse : ev s e <;> simp only [hse, reduceCtorEq] at H'
    case nils => exact key _ hse (.inl hse) H'
    case sl => exact key _ hse (.inr ⟨_, _, _, _, _, hse⟩) H'
  cases hxe : ev x e <;> simp only [hxe, reduceCtorEq] at H
  case nils => exact zero _ H (.inl hxe)
  case sl b2 o2 m c2 s2 =>
    rw [chk_eq, beq_if] at H
    by_cases h1 : s2 = sz
    case neg => rw [if_neg h1] at H; cases H
    rw [if_pos h1] at H
    subst h1
    rw [slcK_eq] at H
    cases hnew : slcV h b2 o2 m s2 with
    | none => simp only [hnew, reduceCtorEq] at H
    | some new =>
      simp only [hnew] at H
      rcases Nat.eq_zero_or_pos m with hm | hm
      · subst hm
        refine zero _ H (.inr ⟨_, _, _, hxe, ?_⟩)
        have hl : new = [] := by
          unfold slcV at hnew
          cases hal : alive b2 h with
          | none => simp [hal] at hnew
          | some l =>
            simp only [hal] at hnew
            split at hnew
            · simp at hnew; exact hnew
            · cases hnew
        rw [hnew, hl]
      · have hmb : Nat.beq m 0 = false := by cases m with
          | zero => omega
          | succ m => rfl
        unfold apX at H
        rw [show (nat_lit 0) = 0 from rfl, hmb] at H
        change asSl (ev s e) (nilsK (ev s e) .fail fun _ => chk (Nat.ble (Nat.mul m bt) (nat_lit 35184372088832)) fun _ => apNew s2 (nat_lit 0) m [] new e nx h k) (apSl s2 bt e nx h k wm m new) = _ at H
        rw [asSl_eq, nilsK_eq] at H
        have apn : ∀ (n : Nat) (old : List DV) (h : Hp), apNew s2 n m old new e nx h k = k e (.sl nx 0 (n + m) none s2) nx.suc (Tr.set nx h (some (.cells (old ++ new)))) := by
          intro n old h
          unfold apNew
          rw [catK_eq, forceN_eq, newK_eq]; rfl
        cases hse : ev s e <;> simp only [hse, reduceCtorEq] at H
        case nils =>
          rw [chk_eq, ble_if] at H
          change (if m * bt ≤ 35184372088832 then _ else _) = _ at H
          by_cases h2 : m * bt ≤ 35184372088832
          case neg => rw [if_neg h2] at H; cases H
          rw [if_pos h2, apn] at H
          exact ⟨_, _, _, _, H, (memOk_appNew hop hs hx A (old := []) (n := 0) (.inl ⟨hse, rfl, rfl, hm⟩) hxe hnew (by rw [Nat.zero_add]; exact h2)).op, Moves.new⟩
        case sl b o1 n cp s3 =>
          unfold apSl at H
          rw [chk_eq, beq_if] at H
          by_cases h3 : s3 = s2
          case neg => rw [if_neg h3] at H; cases H
          rw [if_pos h3, chk_eq, ble_if] at H
          subst h3
          change (if (n + m) * bt ≤ 35184372088832 then _ else _) = _ at H
          by_cases h4 : (n + m) * bt ≤ 35184372088832
          case neg => rw [if_neg h4] at H; cases H
          rw [if_pos h4] at H
          cases cp with
          | none =>
            change wOk wm b .fail (fun _ => ownK b h .fail fun l => dropK o1 l .fail fun t => takeK (n * s3) t .fail fun old => Tr.setK b h (some .dead) fun h => apNew s3 n m old new e nx h k) = _ at H
            rw [wOk_eq] at H
            by_cases h5 : may wm b
            case neg => rw [if_neg h5] at H; cases H
            rw [if_pos h5, ownK_eq] at H
            cases hg : Tr.get? b h with
            | none => simp only [hg, reduceCtorEq] at H
            | some ob =>
              cases ob <;> simp only [hg, reduceCtorEq] at H
              rename_i l
              rw [dropK_eq] at H
              by_cases h6 : o1 ≤ l.length
              case neg => rw [if_neg h6] at H; cases H
              rw [if_pos h6, takeK_eq] at H
              by_cases h7 : n * s3 ≤ (l.drop o1).length
              case neg => rw [if_neg h7] at H; cases H
              rw [if_pos h7, Tr.setK_eq, apn] at H
              exact ⟨_, _, _, _, H, (memOk_appKill hop hs hx A hse hg h6 h7 hm hxe hnew h4).op, Moves.put_new h5 hg⟩
          | some c =>
            change (Bool.rec (motive := fun _ => Res) (slcK h b o1 n s3 fun old => apNew s3 n m old new e nx h k) (apIn s3 e nx h k wm b o1 n c m new) (Nat.ble (n + m) c)) = _ at H
            rw [brec_if, ble_if] at H
            by_cases h5 : n + m ≤ c
            · rw [if_pos h5] at H
              unfold apIn at H
              rw [wOk_eq] at H
              by_cases h6 : may wm b
              case neg => rw [if_neg h6] at H; cases H
              rw [if_pos h6, ownK_eq] at H
              cases hg : Tr.get? b h with
              | none => simp only [hg, reduceCtorEq] at H
              | some ob =>
                cases ob <;> simp only [hg, reduceCtorEq] at H
                rename_i l
                change sprK (o1 + n * s3) l new .fail (fun l => Tr.setK b h (some (.cells l)) fun h => forceN (n + m) fun n => k e (.sl b o1 n (some c) s3) nx h) = _ at H
                rw [sprK_eq] at H
                by_cases h7 : o1 + n * s3 + new.length ≤ l.length
                case neg => rw [if_neg h7] at H; cases H
                rw [if_pos h7, Tr.setK_eq, forceN_eq] at H
                exact ⟨_, _, _, _, H, (memOk_appIn hop hs hx A hse hg hm h5 h7 hxe hnew).op, Moves.put h6 hg⟩
            · rw [if_neg h5, slcK_eq] at H
              cases hold : slcV h b o1 n s3 with
              | none => simp only [hold, reduceCtorEq] at H
              | some old =>
                simp only [hold, apn] at H
                exact ⟨_, _, _, _, H, (memOk_appNew hop hs hx A (.inr ⟨_, _, _, hse, hold, by omega⟩) hxe hnew h4).op, Moves.new⟩
end
section
variable {Pr : Program} {F : Tr Fd} {ih : Ih} {wm : Option P} {e : Env} {nx : P} {h : Hp} {k : Kv} {out : Out} {eo : Env} {no : P} {ho : Hp} {o : Oper}
theorem mem_apz {sz bt : Nat} {z : List DV} {s x : Opd} (H : insK (.apz sz bt z s x) F ih wm e nx h k = .ok out eo no ho) (hc : chkMem Pr (.apz sz bt z s x) o.op = true) : Step Pr o wm e nx h k (.ok out eo no ho) := by
  cases hop : o.op <;> simp only [chkMem, hop, Bool.false_eq_true] at hc
  rename_i c
  obtain ⟨y, y', t, t', rfl, hf⟩ := chkCall2_spec hc
  simp only [Bool.and_eq_true] at hf
  obtain ⟨⟨hs, hx⟩, hA⟩ := hf
  change nilsK (ev s e) .fail (fun _ => asI (ev x e) .fail fun _ x => natI x fun n => chk (Nat.ble (Nat.mul n bt) (nat_lit 1073741824)) fun _ =>
    Bool.rec (motive := fun _ => Res) (apzN sz z n e nx h k) (k e .nils nx h) (Nat.beq n (nat_lit 0))) = _ at H
  rw [nilsK_eq] at H
  cases hse : ev s e <;> simp only [hse, reduceCtorEq] at H
  rw [asI_eq] at H
  cases hxe : ev x e <;> simp only [hxe, reduceCtorEq] at H
  rename_i kk i
  rw [natI_eq] at H
  by_cases h1 : 0 ≤ i
  case neg => rw [if_neg h1] at H; cases H
  rw [if_pos h1, chk_eq, ble_if] at H
  change (if i.toNat * bt ≤ 1073741824 then _ else _) = _ at H
  by_cases h2 : i.toNat * bt ≤ 1073741824
  case neg => rw [if_neg h2] at H; cases H
  rw [if_pos h2, brec_if, beq_if] at H
  have hi : i = (i.toNat : Int) := by omega
  generalize i.toNat = n at *
  subst hi
  by_cases h3 : n = 0
  · rw [if_pos h3] at H
    subst h3
    exact ⟨_, _, _, _, H, (memOk_apz0 hop hs hx hA hse hxe).op, Moves.same _ _ _ _⟩
  · rw [if_neg h3] at H
    unfold apzN at H
    rw [repZ_eq] at H
    unfold apNew at H
    rw [catK_eq, forceN_eq, newK_eq] at H
    change k e (.sl nx 0 (0 + n) none sz) nx.suc (Tr.set nx h (some (.cells (reps z n)))) = _ at H
    rw [Nat.zero_add] at H
    exact ⟨_, _, _, _, H, (memOk_apz hop hs hx hA hse hxe h3 h2).op, Moves.new⟩
theorem mem_msl {sz bt : Nat} {z : List DV} {s x : Opd} (H : insK (.msl sz bt z s x) F ih wm e nx h k = .ok out eo no ho) (hc : chkMem Pr (.msl sz bt z s x) o.op = true) : Step Pr o wm e nx h k (.ok out eo no ho) := by
  cases hop : o.op <;> simp only [chkMem, hop, Bool.false_eq_true] at hc
  rename_i t y y'
  simp only [Bool.and_eq_true] at hc
  obtain ⟨⟨hs, hx⟩, hA⟩ := hc
  change asI (ev s e) .fail (fun _ x' => natI x' fun n => asI (ev x e) .fail fun _ y => natI y fun c => chk (Nat.ble n c) fun _ =>
    chk (Nat.ble (Nat.mul bt c) (nat_lit 1073741824)) fun _ => repZ z c fun l => forceN n fun n => forceN c fun c => newK l e nx h (fun b => .sl b (nat_lit 0) n (some c) sz) k) = _ at H
  rw [asI_eq] at H
  cases hse : ev s e <;> simp only [hse, reduceCtorEq] at H
  rename_i k1 i1
  rw [natI_eq] at H
  by_cases h1 : 0 ≤ i1
  case neg => rw [if_neg h1] at H; cases H
  rw [if_pos h1, asI_eq] at H
  cases hxe : ev x e <;> simp only [hxe, reduceCtorEq] at H
  rename_i k2 i2
  rw [natI_eq] at H
  by_cases h2 : 0 ≤ i2
  case neg => rw [if_neg h2] at H; cases H
  rw [if_pos h2, chk_eq, ble_if] at H
  by_cases h3 : i1.toNat ≤ i2.toNat
  case neg => rw [if_neg h3] at H; cases H
  rw [if_pos h3, chk_eq, ble_if] at H
  change (if bt * i2.toNat ≤ 1073741824 then _ else _) = _ at H
  by_cases h4 : bt * i2.toNat ≤ 1073741824
  case neg => rw [if_neg h4] at H; cases H
  rw [if_pos h4, repZ_eq, forceN_eq, forceN_eq, newK_eq] at H
  have hi1 : i1 = (i1.toNat : Int) := by omega
  have hi2 : i2 = (i2.toNat : Int) := by omega
  generalize i1.toNat = n1 at *
  generalize i2.toNat = n2 at *
  subst hi1; subst hi2
  exact ⟨_, _, _, _, H, (memOk_msl hop hs hx hA hse hxe h3 h4).op, Moves.new⟩
theorem mem_al {z : List DV} (H : insK (.al z) F ih wm e nx h k = .ok out eo no ho) (hc : chkMem Pr (.al z) o.op = true) : Step Pr o wm e nx h k (.ok out eo no ho) := by
  cases hop : o.op <;> simp only [chkMem, hop, Bool.false_eq_true] at hc
  rename_i t
  cases hi : Pr.info? t with
  | none => simp [hi] at hc
  | some it =>
    cases hz : it.zero with
    | none => simp [hi, hz] at hc
    | some zv =>
      simp only [hi, hz] at hc
      change newK z e nx h (fun n => .ptr n (nat_lit 0)) k = _ at H
      rw [newK_eq] at H
      exact ⟨_, _, _, _, H, (memOk_al hop hi hz hc).op, Moves.new⟩
theorem mem_bx {d : Opd} (H : insK (.bx d) F ih wm e nx h k = .ok out eo no ho) (hc : chkMem Pr (.bx d) o.op = true) : Step Pr o wm e nx h k (.ok out eo no ho) := by
  cases hop : o.op <;> simp only [chkMem, hop, Bool.false_eq_true] at hc
  rename_i t x
  change ovK d e (fun v => cellsK v .fail fun l => newK l e nx h (fun n => .ptr n (nat_lit 0)) k) = _ at H
  rw [ovK_eq, cellsK_eq] at H
  cases hl : (ov d e).cells with
  | none => simp only [hl, reduceCtorEq] at H
  | some l =>
    simp only [hl, newK_eq] at H
    exact ⟨_, _, _, _, H, (memOk_bx hop hc hl).op, Moves.new⟩
theorem mem_bsl {len sz : Nat} {z : List DV} {ps : List (Nat × Nat × Opd)} (H : insK (.bsl len sz z ps) F ih wm e nx h k = .ok out eo no ho) (hc : chkMem Pr (.bsl len sz z ps) o.op = true) : Step Pr o wm e nx h k (.ok out eo no ho) := by
  cases hop : o.op <;> simp only [chkMem, hop, Bool.false_eq_true] at hc
  change fillK ps z e (fun l => newK l e nx h (fun n => .sl n (nat_lit 0) len (some len) sz) k) = _ at H
  rw [fillK_eq] at H
  cases hl : fills e ps z with
  | none => simp only [hl, reduceCtorEq] at H
  | some l =>
    simp only [hl, newK_eq] at H
    rw [Bool.or_eq_true] at hc
    rcases hc with hc | hc
    · exact ⟨_, _, _, _, H, (memOk_bsl hop hc hl).op, Moves.new⟩
    · exact ⟨_, _, _, _, H, (memOk_bsl0 hop hc hl).op, Moves.new⟩
theorem mem_ld {d : Opd} (H : insK (.ld d) F ih wm e nx h k = .ok out eo no ho) (hc : chkMem Pr (.ld d) o.op = true) : Step Pr o wm e nx h k (.ok out eo no ho) := by
  cases hop : o.op <;> simp only [chkMem, hop, Bool.false_eq_true] at hc
  simp only [Bool.and_eq_true] at hc
  change readK (ev d e) e h .fail (fun l o => nthK l o .fail fun v => fV v fun v => k e v nx h) = _ at H
  rw [readK_eq] at H
  cases hl : look (ev d e) e h with
  | none => simp only [hl, reduceCtorEq] at H
  | some p =>
    obtain ⟨l, i⟩ := p
    simp only [hl, nthK_eq] at H
    cases hv : l[i]? with
    | none => simp only [hv, reduceCtorEq] at H
    | some v =>
      simp only [hv, fV_eq] at H
      exact ⟨_, _, _, _, H, (memOk_ld hop hc.1 hc.2 hl hv).op, Moves.same _ _ _ _⟩
theorem mem_lda {n : Nat} {d : Opd} (H : insK (.lda n d) F ih wm e nx h k = .ok out eo no ho) (hc : chkMem Pr (.lda n d) o.op = true) : Step Pr o wm e nx h k (.ok out eo no ho) := by
  cases hop : o.op <;> simp only [chkMem, hop, Bool.false_eq_true] at hc
  simp only [Bool.and_eq_true] at hc
  change readK (ev d e) e h .fail (fun l o => dropK o l .fail fun t => takeK n t .fail fun r => k e (.agg r) nx h) = _ at H
  rw [readK_eq] at H
  cases hl : look (ev d e) e h with
  | none => simp only [hl, reduceCtorEq] at H
  | some p =>
    obtain ⟨l, i⟩ := p
    simp only [hl, dropK_eq, takeK_eq] at H
    by_cases h1 : i ≤ l.length
    case neg => rw [if_neg h1] at H; cases H
    rw [if_pos h1] at H
    by_cases h2 : n ≤ (l.drop i).length
    case neg => rw [if_neg h2] at H; cases H
    rw [if_pos h2] at H
    exact ⟨_, _, _, _, H, (memOk_lda hop hc.1.1 hc.1.2 hc.2 hl h2).op, Moves.same _ _ _ _⟩
theorem look_nl {x : DV} {e : Env} {p : List DV × Nat} (hl : look x e .nl = some p) (h : Hp) : look x e h = some p := by
  unfold look at hl ⊢
  split at hl
  · rename_i k o
    simp only [Tr.get_e, reduceCtorEq] at hl
  all_goals first | exact hl | (simp only [Tr.get_e, reduceCtorEq] at hl)
theorem mem_vla {n : Nat} {d : Opd} (H : insK (.vla n d) F ih wm e nx h k = .ok out eo no ho) (hc : chkMem Pr (.vla n d) o.op = true) : Step Pr o wm e nx h k (.ok out eo no ho) := by
  cases hop : o.op <;> simp only [chkMem, hop, Bool.false_eq_true] at hc
  simp only [Bool.and_eq_true] at hc
  change readK (ev d e) e .nl .fail (fun l o => dropK o l .fail fun t => takeK n t .fail fun r => k e (.agg r) nx h) = _ at H
  rw [readK_eq] at H
  cases hl : look (ev d e) e .nl with
  | none => simp only [hl, reduceCtorEq] at H
  | some p =>
    obtain ⟨l, i⟩ := p
    simp only [hl, dropK_eq, takeK_eq] at H
    by_cases h1 : i ≤ l.length
    case neg => rw [if_neg h1] at H; cases H
    rw [if_pos h1] at H
    by_cases h2 : n ≤ (l.drop i).length
    case neg => rw [if_neg h2] at H; cases H
    rw [if_pos h2] at H
    exact ⟨_, _, _, _, H, (memOk_lda hop hc.1.1 hc.1.2 hc.2 (look_nl hl h) h2).op, Moves.same _ _ _ _⟩
theorem mem_st {n : Nat} {d dv : Opd} (H : insK (.st n d dv) F ih wm e nx h k = .ok out eo no ho) (hc : chkMem Pr (.st n d dv) o.op = true) : Step Pr o wm e nx h k (.ok out eo no ho) := by
  cases hop : o.op <;> simp only [chkMem, hop, Bool.false_eq_true] at hc
  simp only [Bool.and_eq_true] at hc
  obtain ⟨⟨hd, hdv⟩, hs⟩ := hc
  change ovK dv e (fun v => cellsK v .fail fun c => chk (isLen c n) fun _ => asP (ev d e) (asFl (ev d e) .fail (stF e nx h k c)) (stP wm e nx h k c)) = _ at H
  rw [ovK_eq, cellsK_eq] at H
  cases hl : (ov dv e).cells with
  | none => simp only [hl, reduceCtorEq] at H
  | some c =>
    simp only [hl] at H
    rw [chk_eq, isLen_eq] at H
    by_cases h1 : c.length = n
    case neg => rw [if_neg (by simpa using h1)] at H; cases H
    rw [if_pos (by simpa using h1), asP_eq, asFl_eq] at H
    cases hde : ev d e <;> simp only [hde, reduceCtorEq] at H
    case ptr b i =>
      unfold stP at H
      rw [wOk_eq] at H
      by_cases h2 : may wm b
      case neg => rw [if_neg h2] at H; cases H
      rw [if_pos h2, ownK_eq] at H
      cases hg : Tr.get? b h with
      | none => simp only [hg, reduceCtorEq] at H
      | some ob =>
        cases ob <;> simp only [hg, reduceCtorEq] at H
        rename_i l
        rw [sprK_eq] at H
        by_cases h3 : i + c.length ≤ l.length
        case neg => rw [if_neg h3] at H; cases H
        rw [if_pos h3, Tr.setK_eq] at H
        exact ⟨_, _, _, _, H, (memOk_st hop hd hdv hs hde hg hl h1 h3).op, Moves.put h2 hg⟩
    case fld p i =>
      unfold stF at H
      rw [varK_eq] at H
      cases hg : Tr.get? p e with
      | none => simp only [hg, reduceCtorEq] at H
      | some ob =>
        cases ob <;> simp only [hg, reduceCtorEq] at H
        rename_i l
        rw [sprK_eq] at H
        by_cases h3 : i + c.length ≤ l.length
        case neg => rw [if_neg h3] at H; cases H
        rw [if_pos h3, Tr.setK_eq] at H
        refine ⟨_, _, _, _, H, (memOk_stv hop hd hdv hs hde hg hl h1 h3).op, Nat.le_refl _, fun q => ?_, fun _ _ _ _ _ => rfl, fun h => h⟩
        by_cases hq : q = p
        · subst hq
          refine .inr ⟨l, _, hg, Tr.get_set_self _ _ _, ?_⟩
          simp; omega
        · exact .inl (Tr.get_set_ne hq _ _)
theorem mem_clr {sz : Nat} {z : List DV} {d : Opd} (H : insK (.clr sz z d) F ih wm e nx h k = .ok out eo no ho) (hc : chkMem Pr (.clr sz z d) o.op = true) : Step Pr o wm e nx h k (.ok out eo no ho) := by
  cases hop : o.op <;> simp only [chkMem, hop, Bool.false_eq_true] at hc
  rename_i c
  obtain ⟨x, t, rfl, hf⟩ := chkCall1_spec hc
  simp only [Bool.and_eq_true] at hf
  obtain ⟨hd, hA⟩ := hf
  change asSl (ev d e) (nilsK (ev d e) .fail fun _ => k e (.tup []) nx h) (fun b o n _ s => chk (Nat.beq s sz) fun _ => chk (isLen z sz) fun _ =>
    Bool.rec (motive := fun _ => Res) (clrB wm z e nx h k b o n) (k e (.tup []) nx h) (Nat.beq n (nat_lit 0))) = _ at H
  rw [asSl_eq, nilsK_eq] at H
  cases hde : ev d e <;> simp only [hde, reduceCtorEq] at H
  case nils => exact ⟨_, _, _, _, H, (memOk_clr0 hop hd hA (.inl hde)).op, Moves.same _ _ _ _⟩
  case sl b i n cp s =>
    rw [chk_eq, beq_if] at H
    by_cases h1 : s = sz
    case neg => rw [if_neg h1] at H; cases H
    rw [if_pos h1, chk_eq, isLen_eq] at H
    by_cases h2 : z.length = sz
    case neg => rw [if_neg (by simpa using h2)] at H; cases H
    rw [if_pos (by simpa using h2)] at H
    rcases Nat.eq_zero_or_pos n with h0 | h0
    · subst h0
      exact ⟨_, _, _, _, H, (memOk_clr0 hop hd hA (.inr ⟨_, _, _, _, hde⟩)).op, Moves.same _ _ _ _⟩
    · obtain ⟨m, rfl⟩ : ∃ m, n = m + 1 := ⟨n - 1, by omega⟩
      change clrB wm z e nx h k b i (m + 1) = _ at H
      unfold clrB at H
      rw [wOk_eq] at H
      by_cases h3 : may wm b
      case neg => rw [if_neg h3] at H; cases H
      rw [if_pos h3, ownK_eq] at H
      cases hg : Tr.get? b h with
      | none => simp only [hg, reduceCtorEq] at H
      | some ob =>
        cases ob <;> simp only [hg, reduceCtorEq] at H
        rename_i l
        rw [repZ_eq, sprK_eq] at H
        by_cases h4 : i + (reps z (m + 1)).length ≤ l.length
        case neg => rw [if_neg h4] at H; cases H
        rw [if_pos h4, Tr.setK_eq] at H
        exact ⟨_, _, _, _, H, (memOk_clr hop hd hA hde h0 hg h4).op, Moves.put h3 hg⟩
def isBad : Ins → Bool
  | .bad => true
  | _ => false
def chkIns (Pr : Program) (i : Ins) (op : Go.Op) : Bool := (isPure i && chkPure Pr i op) || (chkMem Pr i op || isBad i)
theorem ins_sim {i : Ins} (H : insK i F ih wm e nx h k = .ok out eo no ho) (hc : chkIns Pr i o.op = true) : Step Pr o wm e nx h k (.ok out eo no ho) := by
  unfold chkIns at hc
  rw [Bool.or_eq_true, Bool.and_eq_true, Bool.or_eq_true] at hc
  rcases hc with ⟨hp, hc⟩ | hc | hb
  · rw [insK_pure i hp] at H
    cases hv : pureDV i e with
    | none => simp only [hv, reduceCtorEq] at H
    | some v =>
      simp only [hv] at H
      exact ⟨_, _, _, _, H, (memOk_pure hv hc).op, Moves.same _ _ _ _⟩
  · cases i
    case app => exact mem_app H hc
    case apz => exact mem_apz H hc
    case msl => exact mem_msl H hc
    case al => exact mem_al H hc
    case bx => exact mem_bx H hc
    case bsl => exact mem_bsl H hc
    case ld => exact mem_ld H hc
    case lda => exact mem_lda H hc
    case vla => exact mem_vla H hc
    case st => exact mem_st H hc
    case clr => exact mem_clr H hc
    all_goals (unfold chkMem at hc; simp at hc)
  · cases i <;> first | (simp [isBad] at hb; done) | (change Res.fail = _ at H; cases H)
end
def chkRs (Pr : Program) : List Rs → List ResultVar → Bool
  | [], [] => true
  | .t p :: l, .tmp t :: l' => Nat.beq p.n t && chkRs Pr l l'
  | .cell p none :: l, .cell q t :: l' => Nat.beq p.n q && aggIs Pr t false && chkRs Pr l l'
  | .cell p (some n) :: l, .cell q t :: l' => Nat.beq p.n q && aggIs Pr t true && sizeIs Pr t n && chkRs Pr l l'
  | _, _ => false
section
variable {L : P → Prop} {N hi : Nat} {j : J} {pv : P → Option Nat} {e : Env} {nx : P} {h : Hp} {a : Act} {w : World} {Pr : Program}
theorem run_loadVar_one {t : Nat} (ht : aggIs Pr t false = true) {ad : Addr} {v : Value} (hc : w.cell? ad = some v) : (loadVar t ad).run Pr w = .ok v w := by
  simp only [loadVar, Sem.run_bind, aggIs_spec ht, Result.andThen_ok, Bool.false_eq_true, if_false, run_load, hc]
theorem run_loadVar_many {t n : Nat} (ht : aggIs Pr t true = true) (hs : sizeIs Pr t n = true) {b o : Nat} {vs : List Value} (hn : vs.length = n)
    (hc : ∀ i v, vs[i]? = some v → w.cell? ⟨b, o + i, none⟩ = some v) : (loadVar t ⟨b, o, none⟩).run Pr w = .ok (.agg vs.toArray) w := by
  obtain ⟨i, hi, hsz⟩ := sizeIs_spec hs
  have hso : (sizeOf t).run Pr w = .ok n w := by simp [sizeOf, typeInfo, hi, hsz]
  have hl : (loadCells ⟨b, o, none⟩ vs.length).run Pr w = .ok vs.toArray w := run_loadCells_list (P := Pr) w ⟨b, o, none⟩ vs (fun q v hv => by rw [Addr.add_mid]; exact hc q v hv)
  rw [hn] at hl
  simp only [loadVar, Sem.run_bind, Sem.run_pure, Result.andThen_ok, aggIs_spec ht, if_true, hso, hl]
def resOf (tmps : Array Value) : ResultVar → Sem Value
  | .tmp t => pure (tmps.getD t undef)
  | .cell a t => do loadVar t (← asAddr (tmps.getD a undef))
theorem Rel.rs_sim (R : Rel L N hi j pv e nx h a w) : ∀ (rs : List Rs) (qs : List ResultVar) (vs : List DV), chkRs Pr rs qs = true → rsv e h rs = some vs →
    ∃ vs' : List Value, (qs.mapM (resOf a.tmps)).run Pr w = .ok vs' w ∧ VRt j vs vs' := by
  intro rs
  induction rs with
  | nil =>
    intro qs vs hc hv
    cases qs with
    | cons q qs => simp [chkRs] at hc
    | nil => simp only [rsv, Option.some.injEq] at hv; subst hv; exact ⟨[], by simp [List.mapM_nil], .nil⟩
  | cons r rs ih =>
    intro qs vs hc hv
    simp only [rsv] at hv
    cases hr : rs1v r e h with
    | none => simp only [hr, reduceCtorEq] at hv
    | some v =>
      simp only [hr] at hv
      cases ht : rsv e h rs with
      | none => simp [ht] at hv
      | some vs0 =>
        simp only [ht, Option.map_some, Option.some.injEq] at hv
        subst hv
        have main : ∀ q qs', qs = q :: qs' → chkRs Pr rs qs' = true → (∃ v', (resOf a.tmps q).run Pr w = .ok v' w ∧ VR j v v') →
            ∃ vs' : List Value, (qs.mapM (resOf a.tmps)).run Pr w = .ok vs' w ∧ VRt j (v :: vs0) vs' := by
          rintro q qs' rfl hc' ⟨v', hrun, hx⟩
          obtain ⟨vs', hm, hx'⟩ := ih qs' vs0 hc' ht
          refine ⟨v' :: vs', ?_, .cons hx hx'⟩
          simp only [List.mapM_cons, Sem.run_bind, hrun, Result.andThen_ok, hm, Sem.run_pure]
        have cell : ∀ (p : P) (q : Nat) (l : List DV) (o : Nat), Nat.beq p.n q = true → Dx.look (evT p e) e h = some (l, o) → ∃ b s, a.tmps.getD q undef = .pointer (some ⟨b, s + o, none⟩) ∧ CellsAt j w b s l := by
          intro p q l o hq hl
          exact R.look (R.reads (.t p) (.tmp q) hq) hl
        cases qs with
        | nil => cases r with
          | t p => simp [chkRs] at hc
          | cell p n => cases n <;> simp [chkRs] at hc
        | cons q qs =>
          cases r with
          | t p =>
            cases q with
            | cell => simp [chkRs] at hc
            | tmp t =>
              simp only [chkRs, Bool.and_eq_true] at hc
              refine main _ _ rfl hc.2 ⟨_, rfl, ?_⟩
              simp only [rs1v, Option.some.injEq] at hr
              rw [← hr]
              exact R.reads.ov (d := .t p) (x := .tmp t) hc.1
          | cell p n =>
            cases q with
            | tmp t => cases n <;> simp [chkRs] at hc
            | cell q t =>
              cases n with
              | none =>
                simp only [chkRs, Bool.and_eq_true] at hc
                simp only [rs1v] at hr
                cases hl : Dx.look (evT p e) e h with
                | none => simp [hl] at hr
                | some x =>
                  obtain ⟨l, o⟩ := x
                  simp only [hl] at hr
                  obtain ⟨b, s, hp, hcells⟩ := cell p q l o hc.1.1 hl
                  obtain ⟨v', hcell, hx, _⟩ := hcells o v hr
                  refine main _ _ rfl hc.2 ⟨v', ?_, hx⟩
                  simp only [resOf, hp, asAddr, Sem.run_bind, Sem.run_pure, Result.andThen_ok, run_loadVar_one hc.1.2 hcell]
              | some n =>
                simp only [chkRs, Bool.and_eq_true] at hc
                simp only [rs1v] at hr
                cases hl : Dx.look (evT p e) e h with
                | none => simp [hl] at hr
                | some x =>
                  obtain ⟨l, o⟩ := x
                  simp only [hl] at hr
                  by_cases hle : o ≤ l.length ∧ n ≤ (l.drop o).length
                  case neg => rw [if_neg hle] at hr; cases hr
                  rw [if_pos hle] at hr
                  simp only [Option.some.injEq] at hr; subst hr
                  obtain ⟨b, s, hp, hcells⟩ := cell p q l o hc.1.1.1 hl
                  obtain ⟨vs1, h1, h2, h3⟩ := hcells.part o n hle.2
                  refine main _ _ rfl hc.2 ⟨.agg vs1.toArray, ?_, .agg h1⟩
                  simp only [resOf, hp, asAddr, Sem.run_bind, Sem.run_pure, Result.andThen_ok, run_loadVar_many hc.1.1.2 hc.1.2 h2 h3]
theorem Rel.results (R : Rel L N hi j pv e nx h a w) {fn : Func} {rs : List Rs} {vs : List DV} (hc : chkRs Pr rs fn.results.toList = true) (hv : rsv e h rs = some vs) :
    ∃ v', (results fn a.tmps).run Pr w = .ok v' w ∧ VR j (one vs) v' := by
  obtain ⟨vs', hm, hx⟩ := R.rs_sim rs fn.results.toList vs hc hv
  have hm' : (fn.results.mapM (resOf a.tmps)).run Pr w = .ok vs'.toArray w := by
    simp [Array.mapM_eq_mapM_toList, hm]
  have hl := hx.length
  have hrun : (Go.results fn a.tmps).run Pr w = .ok (if h : vs'.toArray.size = 1 then vs'.toArray[0] else .tuple vs'.toArray) w := by
    show (do let vs ← fn.results.mapM (resOf a.tmps); pure (if h : vs.size = 1 then vs[0] else .tuple vs) : Sem Value).run Pr w = _
    rw [Sem.run_bind, hm']
    rfl
  refine ⟨_, hrun, ?_⟩
  cases hx with
  | nil => exact VR.tup (l' := []) .nil
  | cons h1 t1 =>
    cases t1 with
    | nil => exact h1
    | cons h2 t2 =>
      rw [dif_neg (by simp)]
      exact VR.tup (.cons h1 (.cons h2 t2))
end
section
variable {L : P → Prop} {N hi : Nat} {j : J} {pv : P → Option Nat} {e : Env} {nx : P} {h : Hp} {a : Act} {w : World}
theorem binds_get : ∀ (ps : List P) (vs : List DV) (e0 e : Env), binds ps vs e0 = some e → ∀ p v, Tr.get? p e = some v → Tr.get? p e0 = some v ∨ ∃ i : Nat, ps[i]? = some p ∧ vs[i]? = some v
  | [], [], e0, e, h, p, v, hv => by simp only [binds, Option.some.injEq] at h; subst h; exact .inl hv
  | [], _ :: _, e0, e, h, p, v, hv => by simp [binds] at h
  | _ :: _, [], e0, e, h, p, v, hv => by simp [binds] at h
  | q :: ps, u :: vs, e0, e, h, p, v, hv => by
    simp only [binds] at h
    rcases binds_get ps vs _ e h p v hv with h1 | ⟨i, h1, h2⟩
    · by_cases hq : p = q
      · subst hq
        rw [Tr.get_set_self] at h1
        cases h1
        exact .inr ⟨0, rfl, rfl⟩
      · rw [Tr.get_set_ne hq] at h1; exact .inl h1
    · exact .inr ⟨i + 1, h1, h2⟩
theorem Rel.enter (R : Rel L N hi j pv e nx h a w) {ps : List P} {vs : List DV} {args : List Value} {e' : Env} {n : Nat} (hb : binds ps vs .nl = some e') (hv : VRt j vs args) (hp : ∀ (i : Nat) (p : P), ps[i]? = some p → p.n = i) (hn : args.length ≤ n)
    (L' : P → Prop) : Rel L' n hi j (fun _ => none) e' nx h { tmps := args.toArray ++ Array.replicate (n - args.toArray.size) undef, defers := [] } w where
  fresh := R.fresh
  heap := R.heap
  inj := R.inj
  inr := R.inr
  env := fun p v hpv => by
    rcases binds_get ps vs .nl e' hb p v hpv with h1 | ⟨i, h1, h2⟩
    · rw [Tr.get_e] at h1; cases h1
    · obtain ⟨v', h3, h4⟩ := hv.get i v h2
      have hi := hp i p h1
      have hlt := (List.getElem?_eq_some_iff.1 h3).1
      have ht : (args.toArray ++ Array.replicate (n - args.toArray.size) undef).getD p.n undef = v' := by
        rw [hi, Array.getD_eq_getD_getElem?, Array.getElem?_append_left (by simpa using hlt), List.getElem?_toArray, h3]; rfl
      exact XD.tmps (XD.of_VR h4) ht
  pvv := fun p b hpb => by cases hpb
  pin := fun p q b hpb => by cases hpb
  pfr := fun p b hpb => by cases hpb
  pfo := fun p b hpb => by cases hpb
  loc := fun p l hpl => by
    rcases binds_get ps vs .nl e' hb p _ hpl with h1 | ⟨i, h1, h2⟩
    · rw [Tr.get_e] at h1; cases h1
    · obtain ⟨v', h3, h4⟩ := hv.get i _ h2; cases h4
  size := by simp; omega
  lt := R.lt
  lr := R.lr
  top := R.top
theorem Rel.leave (R : Rel L N hi j pv e nx h a w) {L' : P → Prop} {N' : Nat} {j' : J} {pv' : P → Option Nat} {e' : Env} {nx' : P} {h' : Hp} {a' : Act} {w' : World} (R' : Rel L' N' hi j' pv' e' nx' h' a' w') (F' : Fr hi nx.n j (fun _ => none) w j' pv' w') :
    Rel L N hi j' pv e nx' h' a w' ∧ Fr hi nx.n j pv w j' pv w' := by
  have blk : ∀ p b, pv p = some b → w'.heap[b]? = w.heap[b]? ∧ b < w.heap.size := by
    intro p b hb
    obtain ⟨l, hl⟩ := R.pvv p b hb
    obtain ⟨b', hb', _, hlies, _⟩ := R.env p _ hl
    rw [hb] at hb'; cases hb'
    exact ⟨F'.same b hlies.lt (fun k s c hk => absurd hk (R.pfr p b hb k s c)) (fun _ h => nomatch h), hlies.lt⟩
  refine ⟨?_, ?_⟩
  · exact {
      fresh := R'.fresh
      heap := R'.heap
      inj := R'.inj
      inr := R'.inr
      env := fun p v hv => ER.of_heap F'.ext F'.size (fun b hb => (blk p b hb).1) (R.env p v hv)
      pvv := R.pvv
      pin := R.pin
      pfr := fun p b hb k s c hk => by
        rcases Nat.lt_or_ge k.n hi with hlt | hge
        · rcases F'.new k b s c hk hlt with ⟨k0, s0, c0, h0, _⟩ | h0
          · exact R.pfr p b hb _ _ _ h0
          · have := (blk p b hb).2; omega
        · rw [F'.old k hge] at hk; exact R.pfr p b hb _ _ _ hk
      pfo := fun p b hb k s hk => R.pfo p b hb k s (F'.ro _ _ _ hk)
      loc := R.loc
      size := R.size
      lt := R'.lt
      lr := R'.lr
      top := R'.top }
  · exact { F' with same := fun x hx hj _ => F'.same x hx hj (fun _ h => nomatch h), pnew := fun p x hp => .inl hp }
end
def memN (n : Nat) : List Nat → Bool
  | [] => false
  | m :: l => Nat.beq m n || memN n l
def memP (p : P) : List P → Bool
  | [] => false
  | q :: l => Nat.beq q.n p.n || memP p l
theorem memP_iff (p : P) : ∀ l : List P, memP p l = true ↔ p ∈ l
  | [] => by simp [memP]
  | q :: l => by
    simp only [memP, Bool.or_eq_true, Nat.beq_eq, memP_iff p l, List.mem_cons]
    constructor
    · rintro (h | h)
      · exact .inl (P.n_inj h).symm
      · exact .inr h
    · rintro (h | h)
      · exact .inl (by rw [h])
      · exact .inr h
def vars (Ls : List Nat) (p : P) : Prop := memN p.n Ls = true
def okDst (Ls : List Nat) (N : Nat) : Option P → Option Nat → Bool
  | none, none => true
  | some d, some t => Nat.beq d.n t && Nat.ble (Nat.succ t) N && !memN t Ls
  | _, _ => false
def okGuard (os : List Oper) : Option (P × Bool) → Option (Nat × Bool) → Bool
  | none, none => true
  | some (p, b), some (j, b') => (match os[j]? with | some o => (match o.dst with | some t => Nat.beq p.n t | none => false) | none => false) && beqB b b'
  | _, _ => false
def chkCall (i : Ins) (op : Go.Op) : Bool :=
  match op with
  | .call ⟨.value x, args, _⟩ => match i with
    | .call f xs => chkOpd (.c (.fn f [])) x && chkOpds xs args.toList
    | .callv f xs => chkOpd f x && chkOpds xs args.toList
    | _ => false
  | _ => false
def okLoc (Ls : List Nat) (N : Nat) (p : P) (o : Oper) : Bool :=
  (match o.dst with | some t => Nat.beq p.n t && Nat.ble (Nat.succ t) N && memN t Ls | none => false) && (match o.guard with | none => true | some _ => false)
def chkOp (Pr : Program) (Ls : List Nat) (N : Nat) (os : List Oper) (o : Op) (o' : Oper) : Bool :=
  match o with
  | .mk dst g i => okDst Ls N dst o'.dst && okGuard os g o'.guard && (chkIns Pr i o'.op || chkCall i o'.op)
  | .loc p z => okLoc Ls N p o' && chkMem Pr (.al z) o'.op
  | .locb p x => okLoc Ls N p o' && chkMem Pr (.bx x) o'.op
def chkOps (Pr : Program) (Ls : List Nat) (N : Nat) (os : List Oper) : List Op → List Oper → Bool
  | [], [] => true
  | o :: l, o' :: l' => chkOp Pr Ls N os o o' && chkOps Pr Ls N os l l'
  | _, _ => false
def edges (o : Oper) : List Nat := (o.after.toList.filter fun e => Region.binds .any e).map (·.on)
def maskOf (acc : List Nat) : List Nat → Nat
  | [] => 0
  | i :: l => Nat.lor (Nat.lor (Nat.shiftLeft 1 i) (acc.getD i 0)) (maskOf acc l)
def maskAll : List Oper → List Nat → List Nat
  | [], acc => acc
  | o :: l, acc => maskAll l (acc ++ [maskOf acc (edges o)])
def isLoad : Ins → Bool
  | .ld _ | .lda _ _ | .vla _ _ => true
  | _ => false
def isVl : Ins → Bool
  | .vla _ _ => true
  | _ => false
theorem vl_load {i : Ins} (h : isVl i = true) : isLoad i = true := by cases i <;> first | rfl | cases h
theorem load_vl {i : Ins} (h : isLoad i = false) : isVl i = false := by cases i <;> first | rfl | cases h
theorem vl_pure {i : Ins} (h : isVl i = true) : isPure i = false := by cases i <;> first | rfl | cases h
def stillO : Op → Bool
  | .mk _ _ i => isPure i || isLoad i
  | _ => false
def isVarO : Op → Bool
  | .mk _ _ _ => false
  | _ => true
def blindO : Op → Bool
  | .mk _ _ i => isPure i || isVl i
  | _ => false
def isW : Dop → Bool
  | .mk _ _ _ r o => !r && !stillO o && !isVarO o
def isM : Dop → Bool
  | .mk _ _ _ _ o => !blindO o
def usesD : Dop → List P
  | .mk _ u _ _ _ => u
def backD : Dop → List P
  | .mk _ _ b _ _ => b
def anyP (l m : List P) : Bool := l.any fun p => memP p m
def clash (x y : Dop) : Bool := (isW x && isM y) || (isM x && isW y) || anyP (backD x) (usesD y) || anyP (usesD x) (backD y) || anyP (backD x) (backD y)
def ordRow (y : Dop) (m : Nat) : List Dop → Nat → Bool
  | [], _ => true
  | x :: l, i => (!clash x y || Nat.testBit m i) && ordRow y m l (Nat.succ i)
def ordAll (ms : List Nat) (all : List Dop) : List Dop → Nat → Bool
  | [], _ => true
  | y :: l, k => ordRow y (ms.getD k 0) (all.take k) 0 && ordAll ms all l (Nat.succ k)
def dstO : Op → List P
  | .mk (some d) _ _ => [d]
  | .mk none _ _ => []
  | .loc p _ => [p]
  | .locb p _ => [p]
def allIn (f : P → Bool) : List P → Bool
  | [] => true
  | p :: l => f p && allIn f l
def okDop (Ls : List Nat) : Dop → Bool
  | .mk c u b _ o => c && (!isVarO o || allIn (fun p => memP p u) (dstO o)) && allIn (fun p => memP p b) (dstO o) && allIn (fun p => memP p u || memP p (dstO o)) b && (stillO o || isVarO o || allIn (fun p => !memN p.n Ls || memP p b) u)
def opD : Dop → Op
  | .mk _ _ _ _ o => o
def edgesOk : List Oper → Nat → Bool
  | [], _ => true
  | o :: l, k => (edges o).all (fun i => Nat.ble (Nat.succ i) k) && edgesOk l (Nat.succ k)
def chkDrw (Pr : Program) (Ls : List Nat) (N : Nat) (ds : List Dop) (os : List Oper) : Bool :=
  chkOps Pr Ls N os (ds.map opD) os && ds.all (okDop Ls) && edgesOk os 0 && ordAll (maskAll os []) ds ds 0
def chkC (Pr : Program) (Ls : List Nat) (N : Nat) : C → Code → Bool
  | .skip, .skip => true
  | .skip, .label _ => true
  | .reg ops, .region _ os false => chkOps Pr Ls N os.toList ops os.toList
  | .drw ds, .region _ os true => chkDrw Pr Ls N ds os.toList
  | .seq a b, .seq a' b' => chkC Pr Ls N a a' && chkC Pr Ls N b b'
  | .cond c a b, .cond c' a' b' => chkOpd c c' && chkC Pr Ls N a a' && chkC Pr Ls N b b'
  | .block id a, .block id' a' => Nat.beq id id' && chkC Pr Ls N a a'
  | .loop _ a, .loop a' => chkC Pr Ls N a a'
  | .exit id, .exit id' => Nat.beq id id'
  | .ret, .ret => true
  | _, _ => false
def okPs : List P → Nat → Bool
  | [], _ => true
  | p :: l, i => Nat.beq p.n i && okPs l (Nat.succ i)
theorem okPs_get : ∀ (ps : List P) (k : Nat), okPs ps k = true → ∀ (i : Nat) (p : P), ps[i]? = some p → p.n = k + i
  | [], k, h, i, p, hi => by simp at hi
  | q :: ps, k, h, i, p, hi => by
    simp only [okPs, Bool.and_eq_true, Nat.beq_eq] at h
    cases i with
    | zero => simp at hi; subst hi; omega
    | succ i => have := okPs_get ps (k + 1) h.2 i p (by simpa using hi); omega
def chkFd (Pr : Program) (Ls : List Nat) (fn : Func) (fd : Fd) : Bool :=
  match fd, fn.body with
  | .mk ps body rs, some c => okPs ps 0 && Nat.ble ps.length fn.ntmps && chkC Pr Ls fn.ntmps body c && chkRs Pr rs fn.results.toList && (fn.name != "runtime.NumGoroutine")
  | _, _ => false
def exitOf : Out → Exit
  | .norm => .normal
  | .exit id => .exit id
  | .ret => .ret
def LoopWp (Pr : Program) (c : Code) (Q : Exit → Act → World → Prop) (a : Act) (w : World) : Prop :=
  ∀ (b : Frame) (k : List Item) (cs : List Frame), ∃ e a' w', Q e a' w' ∧ Arrives Pr (lone (b.at a (.code c :: .inLoop c :: k)) cs w) b k cs e a' w'
def cwp (Pr : Program) (c : Code) (Q : Exit → Act → World → Prop) (a : Act) (w : World) : Prop :=
  match c with
  | .loop c => LoopWp Pr c Q a w
  | c => c.wp Pr Q a w
theorem LoopWp.loop {Pr : Program} {c : Code} {Q : Exit → Act → World → Prop} {a : Act} {w : World} (h : LoopWp Pr c Q a w) : (Code.loop c).wp Pr Q a w :=
  fun b k cs => let ⟨e, a', w', hq, harr⟩ := h b k cs; ⟨e, a', w', hq, .of_steps (.one step_loop) harr⟩
theorem LoopWp.round {Pr : Program} {c : Code} {Q : Exit → Act → World → Prop} {a : Act} {w : World} (h : c.wp Pr (Exit.then (LoopWp Pr c Q) Q) a w) : LoopWp Pr c Q a w := by
  intro b k cs
  obtain ⟨e, a₁, w₁, hq, harr⟩ := h b (.inLoop c :: k) cs
  cases e with
  | normal =>
    obtain ⟨e₂, a₂, w₂, hq₂, harr₂⟩ := hq b k cs
    exact ⟨e₂, a₂, w₂, hq₂, .of_steps (Steps.trans harr (.one step_inLoop)) harr₂⟩
  | exit id => exact ⟨_, a₁, w₁, hq, .pass (x := .inLoop c) rfl (fun _ _ => .inl (by simp)) harr⟩
  | goto l => exact ⟨_, a₁, w₁, hq, .pass (x := .inLoop c) rfl (fun _ _ => .inl (by simp)) harr⟩
  | ret => exact ⟨_, a₁, w₁, hq, .pass (x := .inLoop c) rfl (fun _ _ => .inl (by simp)) harr⟩
  | panic ch => exact ⟨_, a₁, w₁, hq, .pass (x := .inLoop c) rfl (fun _ _ => .inl (by simp)) harr⟩
  | outgrown => exact ⟨_, a₁, w₁, hq, .pass (x := .inLoop c) rfl (fun _ _ => .inl (by simp)) harr⟩
theorem cwp_wp {Pr : Program} {c : Code} {Q : Exit → Act → World → Prop} {a : Act} {w : World} (h : cwp Pr c Q a w) : c.wp Pr Q a w := by
  cases c <;> first | exact h | exact LoopWp.loop h
structure MovesC (wm : Option P) (nx : P) (h : Hp) (nx' : P) (h' : Hp) : Prop where
  le : nx.n ≤ nx'.n
  old : ∀ m, wm = some m → m.n ≤ nx.n → ∀ k : P, k.n < m.n → Tr.get? k h' = Tr.get? k h
  top : (∀ k : P, nx.n ≤ k.n → Tr.get? k h = none) → ∀ k : P, nx'.n ≤ k.n → Tr.get? k h' = none
theorem MovesC.refl (wm : Option P) (nx : P) (h : Hp) : MovesC wm nx h nx h := ⟨Nat.le_refl _, fun _ _ _ _ _ => rfl, fun h => h⟩
theorem MovesC.trans {wm : Option P} {nx nx' nx'' : P} {h h' h'' : Hp} (m1 : MovesC wm nx h nx' h') (m2 : MovesC wm nx' h' nx'' h'') : MovesC wm nx h nx'' h'' :=
  ⟨Nat.le_trans m1.le m2.le, fun m hm hmn k hk => by rw [m2.old m hm (Nat.le_trans hmn m1.le) k hk, m1.old m hm hmn k hk], fun ht => m2.top (m1.top ht)⟩
theorem Moves.c {wm : Option P} {e : Env} {nx : P} {h : Hp} {e' : Env} {nx' : P} {h' : Hp} (m : Moves wm e nx h e' nx' h') : MovesC wm nx h nx' h' := ⟨m.le, m.old, m.top⟩
theorem MovesC.m {wm : Option P} {nx : P} {h : Hp} {nx' : P} {h' : Hp} (m : MovesC wm nx h nx' h') (e : Env) : Moves wm e nx h e nx' h' := ⟨m.le, fun _ => .inl rfl, m.old, m.top⟩
def CodeOk (Pr : Program) (Ls : List Nat) (N : Nat) (c : Code) (e : Env) (nx : P) (h : Hp) (out : Out) (e' : Env) (nx' : P) (h' : Hp) : Prop :=
  ∀ (hi : Nat) (j : J) (pv : P → Option Nat) (a : Act) (w : World), Rel (vars Ls) N hi j pv e nx h a w → nx'.n ≤ hi → ∀ Q : Exit → Act → World → Prop,
    (∀ j' pv' a' w', Rel (vars Ls) N hi j' pv' e' nx' h' a' w' → Fr hi nx.n j pv w j' pv' w' → a'.defers = a.defers → Q (exitOf out) a' w') → cwp Pr c Q a w
def IhOk (Pr : Program) (ih : Ih) : Prop := ∀ (c : C) (wm : Option P) (e : Env) (nx : P) (h : Hp) (out : Out) (e' : Env) (nx' : P) (h' : Hp), ih c wm e nx h = .ok out e' nx' h' →
  ∀ (Ls : List Nat) (N : Nat) (c' : Code), chkC Pr Ls N c c' = true → MovesC wm nx h nx' h' ∧ CodeOk Pr Ls N c' e nx h out e' nx' h'
section
variable {Pr : Program} {F : Tr Fd} {ih : Ih} {wm : Option P} {e0 : Env} {nx : P} {h : Hp} {k : Kv} {out : Out} {eo : Env} {no : P} {ho : Hp}
def CallOk (Pr : Program) (f : P) (vs : List DV) (nx : P) (h : Hp) (v : DV) (nx' : P) (h' : Hp) : Prop :=
  ∀ (L : P → Prop) (N hi : Nat) (j : J) (pv : P → Option Nat) (e : Env) (a : Act) (w : World), Rel L N hi j pv e nx h a w → nx'.n ≤ hi → ∀ args : List Value, VRt j vs args →
    Calls Pr f.n args.toArray w fun r w' => ∃ v' j', r = .returned v' ∧ Rel L N hi j' pv e nx' h' a w' ∧ Fr hi nx.n j pv w j' pv w' ∧ VR j' v v'
def PrimOk (Pr : Program) (f : P) (n : Nat) : Prop :=
  (∃ fn, Pr.funcs[f.n]? = some fn ∧ (fn.name == "runtime.NumGoroutine") = false ∧ fn.body.isNone = false) ∧
  ∀ (wm : Option P) (vs : List DV) (nx : P) (h : Hp) (v : DV) (nx' : P) (h' : Hp), primV n wm vs nx h = some (v, nx', h') → CallOk Pr f vs nx h v nx' h' ∧ MovesC wm nx h nx' h'
def FdOk (Pr : Program) (f : P) : Fd → Prop
  | .mk ps body rs => ∃ fn Ls, Pr.funcs[f.n]? = some fn ∧ chkFd Pr Ls fn (.mk ps body rs) = true
  | .prim n => PrimOk Pr f n
def FOk (Pr : Program) (F : Tr Fd) : Prop := ∀ f fd, Tr.get? f F = some fd → FdOk Pr f fd
theorem binds_length : ∀ (ps : List P) (vs : List DV) (e0 e : Env), binds ps vs e0 = some e → ps.length = vs.length
  | [], [], e0, e, h => rfl
  | [], _ :: _, e0, e, h => by simp [binds] at h
  | _ :: _, [], e0, e, h => by simp [binds] at h
  | q :: ps, u :: vs, e0, e, h => by simp only [binds] at h; simp [binds_length ps vs _ e h]
theorem call_sim (hF : FOk Pr F) (hih : IhOk Pr ih) {f : P} {vs : List DV} (H : callK F ih wm f vs e0 nx h k = .ok out eo no ho) :
    ∃ v nx' h', k e0 v nx' h' = .ok out eo no ho ∧ CallOk Pr f vs nx h v nx' h' ∧ MovesC wm nx h nx' h' ∧ ∃ fn, Pr.funcs[f.n]? = some fn ∧ (fn.name == "runtime.NumGoroutine") = false ∧ fn.body.isNone = false := by
  unfold callK at H
  cases hf : Tr.get? f F with
  | none => rw [hf] at H; cases H
  | some fd =>
    have hfd := hF f fd hf
    rcases fd with ⟨ps, body, rs⟩ | n
    rotate_left
    · rw [hf] at H
      change primO e0 k (primV n wm vs nx h) = _ at H
      cases hp : primV n wm vs nx h with
      | none => rw [hp] at H; cases H
      | some r =>
        obtain ⟨v, nx', h'⟩ := r
        rw [hp] at H
        obtain ⟨hfn, hall⟩ := hfd
        obtain ⟨h1, h2⟩ := hall wm vs nx h v nx' h' hp
        exact ⟨v, nx', h', H, h1, h2, hfn⟩
    obtain ⟨fn, Ls, hfn, hc⟩ := hfd
    rw [hf] at H
    change bindK ps vs .nl (fun e => retR (ih body wm e nx h) rs e0 k) = _ at H
    rw [bindK_eq] at H
    cases hb : binds ps vs .nl with
    | none => simp only [hb, reduceCtorEq] at H
    | some e1 =>
      simp only [hb] at H
      cases hr : ih body wm e1 nx h with
      | fail => rw [hr] at H; cases H
      | ok o1 e2 nx2 h2 =>
        rw [hr] at H
        have hret : (o1 = .norm ∨ o1 = .ret) ∧ rsL rs e2 h2 (fun vs => oneK vs fun v => fV v fun v => k e0 v nx2 h2) = .ok out eo no ho := by
          cases o1 with
          | norm => exact ⟨.inl rfl, H⟩
          | ret => exact ⟨.inr rfl, H⟩
          | exit id => cases H
        obtain ⟨ho1, H⟩ := hret
        rw [rsL_eq] at H
        cases hrs : rsv e2 h2 rs with
        | none => simp only [hrs, reduceCtorEq] at H
        | some vs2 =>
          simp only [hrs, oneK_eq, fV_eq] at H
          cases hbody : fn.body with
          | none => simp [chkFd, hbody] at hc
          | some c =>
            simp only [chkFd, hbody, Bool.and_eq_true, Nat.ble_eq] at hc
            obtain ⟨⟨⟨⟨hps, hlen⟩, hcc⟩, hrc⟩, hname⟩ := hc
            obtain ⟨hm, hcode⟩ := hih _ _ _ _ _ _ _ _ _ hr Ls fn.ntmps c hcc
            refine ⟨one vs2, nx2, h2, H, ?_, hm, fn, hfn, by simpa using hname, by rw [hbody]; rfl⟩
            intro L N hi j pv e a w R hnh args hargs
            have hal : args.length ≤ fn.ntmps := by rw [← hargs.length, ← binds_length ps vs _ _ hb]; exact hlen
            have R1 := R.enter hb hargs (fun i p hp => by have := okPs_get ps 0 hps i p hp; omega) hal (vars Ls)
            refine calls_of_wp hfn hbody (cwp_wp (hcode hi j _ _ w R1 hnh _ ?_))
            intro j' pv' a' w' R2 F2 hd
            obtain ⟨v', hrun, hv⟩ := R2.results hrc hrs
            obtain ⟨R3, F3⟩ := R.leave R2 F2
            rcases ho1 with rfl | rfl
            · exact ⟨hd, v', hrun, v', j', rfl, R3, F3, hv⟩
            · exact ⟨hd, v', hrun, v', j', rfl, R3, F3, hv⟩
theorem run_callFunc {f : Nat} {fn : Func} {args : Array Value} {w : World} (hfn : Pr.funcs[f]? = some fn) (hname : (fn.name == "runtime.NumGoroutine") = false) (hbody : fn.body.isNone = false) :
    (callFunc f args).run Pr w = .ok (.enter f args) w := by
  have h1 : fn.name ≠ "runtime.NumGoroutine" := by simpa using hname
  have h2 : fn.body ≠ none := by intro h0; rw [h0] at hbody; cases hbody
  simp [callFunc, hfn, h1, h2]
theorem CallOk.op {o : Oper} {f : P} {cs : List DV} {e : Env} {v : DV} {nx' : P} {h' : Hp} {x : Operand} {args : Array Operand} {tys : Array Nat} {xs : List Opd} {vf : Opd} (C : CallOk Pr f (xs.map (fun o => ov o e) ++ cs) nx h v nx' h') (ho : o.op = .call ⟨.value x, args, tys⟩) (hx : chkOpd vf x = true)
    (hfv : ev vf e = .fn f cs) (has : chkOpds xs args.toList = true) {fn : Func} (hfn : Pr.funcs[f.n]? = some fn) (hname : (fn.name == "runtime.NumGoroutine") = false) (hbody : fn.body.isNone = false) : OpOk Pr o e nx h e v nx' h' := by
  intro L N hi j pv a w R hnh K Q hK
  have r1 := R.reads vf x hx
  rw [hfv] at r1
  obtain ⟨cs', hxe, hcs⟩ := r1.fn
  have r2 := R.reads.ovs xs args.toList has
  have hargs := r2.append hcs
  have hc := C L N hi j pv e a w R hnh _ hargs
  unfold Oper.wp
  have hrun : (execOp a.eval o).run Pr w = .ok (.enter f.n ((args.toList.map a.eval ++ cs').toArray)) w := by
    have h1 : args.map a.eval ++ cs'.toArray = (args.toList.map a.eval ++ cs').toArray := by
      apply Array.toList_inj.1; simp
    simp only [execOp, ho, resolve, hxe, Deferred.ofValue, Sem.run_bind, Sem.run_pure, Result.andThen_ok, invoke]
    rw [← h1]
    simp only [Array.empty_append]
    exact run_callFunc hfn hname hbody
  rw [hrun, Oper.upon_enter]
  refine hc.mono ?_
  rintro r w' ⟨v', j', rfl, R', F', hv⟩
  exact hK j' w' v' R' F' (XD.of_VR hv)
end
section
variable {Pr : Program} {F : Tr Fd} {ih : Ih} {wm : Option P} {e : Env} {nx : P} {h : Hp} {out : Out} {eo : Env} {no : P} {ho : Hp} {o : Oper}
theorem all_sim (hF : FOk Pr F) (hih : IhOk Pr ih) {i : Ins} {k : Kv} (H : insK i F ih wm e nx h k = .ok out eo no ho) (hc : (chkIns Pr i o.op || chkCall i o.op) = true) : Step Pr o wm e nx h k (.ok out eo no ho) := by
  rw [Bool.or_eq_true] at hc
  rcases hc with hc | hc
  · exact ins_sim H hc
  · unfold chkCall at hc
    split at hc
    case h_2 => cases hc
    rename_i x args tys hop
    split at hc
    case h_3 => cases hc
    case h_1 i f xs =>
      simp only [Bool.and_eq_true] at hc
      change ovsK xs e (fun vs => callK F ih wm f vs e nx h k) = _ at H
      rw [ovsK_eq] at H
      obtain ⟨v, nx', h', hk, hcall, hm, fn, h1, h2, h3⟩ := call_sim hF hih H
      refine ⟨e, v, nx', h', hk, CallOk.op (cs := []) (by rw [List.append_nil]; exact hcall) hop hc.1 rfl hc.2 h1 h2 h3, hm.m e⟩
    case h_2 i f xs =>
      simp only [Bool.and_eq_true] at hc
      change asF (ev f e) .fail (fun f cs => ovsK xs e fun vs => catK vs cs fun vs => callK F ih wm f vs e nx h k) = _ at H
      rw [asF_eq] at H
      cases hfv : ev f e <;> simp only [hfv, reduceCtorEq] at H
      rename_i g cs
      rw [ovsK_eq, catK_eq] at H
      obtain ⟨v, nx', h', hk, hcall, hm, fn, h1, h2, h3⟩ := call_sim hF hih H
      exact ⟨e, v, nx', h', hk, hcall.op hop hc.1 hfv hc.2 h1 h2 h3, hm.m e⟩
structure After (L : P → Prop) (N hi : Nat) (nx : P) (j : J) (pv : P → Option Nat) (a : Act) (w : World) (e' : Env) (nx' : P) (h' : Hp) (j' : J) (pv' : P → Option Nat) (a' : Act) (w' : World) : Prop where
  rel : Rel L N hi j' pv' e' nx' h' a' w'
  fr : Fr hi nx.n j pv w j' pv' w'
  defers : a'.defers = a.defers
def OperWp (Pr : Program) (ops : Array Oper) (o : Oper) (K : Act → World → Prop) (Q : Exit → Act → World → Prop) (a : Act) (w : World) : Prop :=
  if Region.wanted o (yielded ops a.tmps) then o.wp Pr a w K Q else K (a.put o.dst undef) w
theorem put_defers (a : Act) (d : Option Tmp) (v : Value) : (a.put d v).defers = a.defers := by cases d <;> rfl
inductive Guard (e : Env) : Option (P × Bool) → Bool → Prop
  | no : Guard e none true
  | is (p : P) (b t : Bool) (h : evT p e = .bool t) : Guard e (some (p, b)) (beqB t b)
  | un (p : P) (b : Bool) (h : evT p e = .tup []) : Guard e (some (p, b)) false
theorem Guard.wanted {j : J} {pv : P → Option Nat} {a : Act} (R : Reads j pv e a.eval) {ops : Array Oper} {g : Option (P × Bool)} {g' : Option (Nat × Bool)} {t : Bool} (G : Guard e g t) (hc : okGuard ops.toList g g' = true)
    (hg : o.guard = g') : Region.wanted o (yielded ops a.tmps) = t := by
  have look : ∀ (p : P) (b : Bool) (j' : Nat) (b' : Bool), okGuard ops.toList (some (p, b)) (some (j', b')) = true → (ops[j']?).bind (·.dst) = some p.n ∧ b = b' := by
    intro p b j' b' hc
    simp only [okGuard, Bool.and_eq_true] at hc
    refine ⟨?_, by cases b <;> cases b' <;> first | rfl | exact absurd hc.2 (by decide)⟩
    have h1 := hc.1
    cases ho : ops.toList[j']? with
    | none => simp [ho] at h1
    | some o' =>
      rw [Array.getElem?_toList] at ho
      cases hd : o'.dst with
      | none => simp [ho, hd] at h1
      | some t => simp [ho, hd] at h1; simp [ho, hd, h1]
  cases G with
  | no =>
    cases g' with
    | none => unfold Region.wanted; rw [hg]
    | some x => simp [okGuard] at hc
  | is p b t hv =>
    cases g' with
    | none => simp [okGuard] at hc
    | some x =>
      obtain ⟨j', b'⟩ := x
      obtain ⟨h1, rfl⟩ := look p b j' b' hc
      have hr := R (.t p) (.tmp p.n) (Nat.beq_refl _)
      change XD j pv (evT p e) (a.tmps.getD p.n undef) at hr
      rw [hv] at hr
      have ht := hr.bool
      have hlt : p.n < a.tmps.size := by
        rcases Nat.lt_or_ge p.n a.tmps.size with h | h
        · exact h
        · rw [Array.getD_eq_getD_getElem?, Array.getElem?_eq_none h] at ht; cases ht
      have hy : yielded ops a.tmps j' = some t := by
        unfold yielded
        rw [h1]
        simp only [Option.bind_some]
        rw [Array.getD_eq_getD_getElem?] at ht
        cases hx : a.tmps[p.n]? with
        | none => rw [hx] at ht; cases ht
        | some u => rw [hx] at ht; simp only [Option.getD_some] at ht; rw [ht]
      unfold Region.wanted
      rw [hg]
      simp only [hy]
      cases t <;> cases b <;> rfl
  | un p b hv =>
    cases g' with
    | none => simp [okGuard] at hc
    | some x =>
      obtain ⟨j', b'⟩ := x
      obtain ⟨h1, rfl⟩ := look p b j' b' hc
      have hr := R (.t p) (.tmp p.n) (Nat.beq_refl _)
      change XD j pv (evT p e) (a.tmps.getD p.n Go.undef) at hr
      rw [hv] at hr
      obtain ⟨l', ht, hl⟩ := hr.tup
      cases hl
      have hy : yielded ops a.tmps j' = none := by
        unfold yielded
        rw [h1]
        simp only [Option.bind_some]
        rw [Array.getD_eq_getD_getElem?] at ht
        cases hx : a.tmps[p.n]? with
        | none => rfl
        | some u => rw [hx] at ht; simp only [Option.getD_some] at ht; rw [ht]
      unfold Region.wanted
      rw [hg]
      simp only [hy]
      cases b <;> rfl
theorem brec_if' (A B : Res) (t : Bool) : (Bool.rec (motive := fun _ => Res) A B t) = match t with | true => B | false => A := by cases t <;> rfl
def StillOk (Pr : Program) (o : Oper) (e : Env) (nx : P) (h : Hp) (v : DV) : Prop :=
  ∀ (L : P → Prop) (N hi : Nat) (j : J) (pv : P → Option Nat) (a : Act) (w : World), Rel L N hi j pv e nx h a w → ∃ v', (execOp a.eval o).run Pr w = .ok (.value v') w ∧ XD j pv v v'
inductive OpDid (Pr : Program) (o : Oper) (wm : Option P) (e : Env) (nx : P) (h : Hp) : Op → Env → P → Hp → Prop
  | run {dst : Option P} {g : Option (P × Bool)} {i : Ins} {e' : Env} {v : DV} {nx' : P} {h' : Hp} (G : Guard e g true) (S : OpOk Pr o e nx h e' v nx' h') (M : Moves wm e nx h e' nx' h') (hs : (isPure i || isLoad i) = false) :
      OpDid Pr o wm e nx h (.mk dst g i) (dstE dst v e') nx' h'
  | still {dst : Option P} {g : Option (P × Bool)} {i : Ins} {v : DV} (G : Guard e g true) (S : StillOk Pr o e nx h v) (hs : (isPure i || isLoad i) = true) (pure : isPure i = true → pureDV i e = some v ∧ chkPure Pr i o.op = true) (vl : isVl i = true → StillOk Pr o e .z .nl v) :
      OpDid Pr o wm e nx h (.mk dst g i) (dstE dst v e) nx h
  | pass {dst : Option P} {g : Option (P × Bool)} {i : Ins} (G : Guard e g false) : OpDid Pr o wm e nx h (.mk dst g i) (dstE dst (.tup []) e) nx h
  | loc {p : P} {z : List DV} (hv : ¬ isVar p e) : OpDid Pr o wm e nx h (.loc p z) (Tr.set p e (some (.var z))) nx h
  | locb {p : P} {x : Opd} {c : List DV} (hv : ¬ isVar p e) (hc : (ov x e).cells = some c) : OpDid Pr o wm e nx h (.locb p x) (Tr.set p e (some (.var c))) nx h
theorem StillOk.op {v : DV} (S : StillOk Pr o e nx h v) : OpOk Pr o e nx h e v nx h := by
  intro L N hi j pv a w R _ K Q hK
  obtain ⟨v', hrun, hx⟩ := S L N hi j pv a w R
  unfold Oper.wp
  rw [hrun]
  exact hK j w v' R (Fr.refl _ _ _ _ _) hx
theorem still_sim {i : Ins} (hs : (isPure i || isLoad i) = true) {k : Kv} (H : insK i F ih wm e nx h k = .ok out eo no ho) (hc : (chkIns Pr i o.op || chkCall i o.op) = true) : ∃ v, k e v nx h = .ok out eo no ho ∧ StillOk Pr o e nx h v ∧ (isPure i = true → pureDV i e = some v ∧ chkPure Pr i o.op = true) ∧ (isVl i = true → StillOk Pr o e .z .nl v) := by
  by_cases hp : isPure i = true
  · rw [insK_pure i hp] at H
    cases hv : pureDV i e with
    | none => simp only [hv, reduceCtorEq] at H
    | some v =>
      simp only [hv] at H
      have hcp : chkPure Pr i o.op = true := by
        have hn : chkCall i o.op = false := by
          unfold chkCall
          split
          · split <;> first | rfl | (simp [isPure] at hp)
          · rfl
        have hm : chkMem Pr i o.op = false := by
          unfold chkMem
          split <;> first | rfl | (simp [isPure] at hp)
        rw [hn, Bool.or_false] at hc
        unfold chkIns at hc
        have hb : isBad i = false := by cases i <;> first | rfl | (simp [isPure] at hp)
        rw [hm, hb, Bool.or_false, Bool.or_false, hp, Bool.true_and] at hc
        exact hc
      refine ⟨v, H, ?_, fun _ => ⟨rfl, hcp⟩, fun h => by rw [vl_pure h] at hp; cases hp⟩
      intro L N hi j pv a w R
      obtain ⟨v', hr, hx⟩ := pure_sim hv hcp R.reads (eval_const a) w
      exact ⟨v', hr, hx⟩
  · cases i <;> simp [isPure, isLoad] at hs hp
    case ld d =>
      have hc : chkMem Pr (.ld d) o.op = true := by
        have : chkCall (.ld d) o.op = false := by unfold chkCall; split <;> rfl
        rw [this] at hc
        simpa [chkIns, isPure, isBad] using hc
      cases hop : o.op <;> simp only [chkMem, hop, Bool.false_eq_true] at hc
      simp only [Bool.and_eq_true] at hc
      change readK (ev d e) e h .fail (fun l o => nthK l o .fail fun v => fV v fun v => k e v nx h) = _ at H
      rw [readK_eq] at H
      cases hl : look (ev d e) e h with
      | none => simp only [hl, reduceCtorEq] at H
      | some p =>
        obtain ⟨l, i⟩ := p
        simp only [hl, nthK_eq] at H
        cases hv : l[i]? with
        | none => simp only [hv, reduceCtorEq] at H
        | some v =>
          simp only [hv, fV_eq] at H
          refine ⟨v, H, ?_, (fun h => by simp [isPure] at h), fun h => by cases h⟩
          intro L N hi j pv a w R
          obtain ⟨b, s, hp, hcc⟩ := R.look (R.reads d _ hc.1) hl
          obtain ⟨v', hcell, hr, _⟩ := hcc i v hv
          refine ⟨v', ?_, XD.of_VR hr⟩
          simp only [execOp, hop, hp, Sem.run_bind, run_loadAt_one hc.2 hcell, Result.andThen_ok, Sem.run_pure]
    case lda n d =>
      have hc : chkMem Pr (.lda n d) o.op = true := by
        have : chkCall (.lda n d) o.op = false := by unfold chkCall; split <;> rfl
        rw [this] at hc
        simpa [chkIns, isPure, isBad] using hc
      cases hop : o.op <;> simp only [chkMem, hop, Bool.false_eq_true] at hc
      simp only [Bool.and_eq_true] at hc
      change readK (ev d e) e h .fail (fun l o => dropK o l .fail fun t => takeK n t .fail fun r => k e (.agg r) nx h) = _ at H
      rw [readK_eq] at H
      cases hl : look (ev d e) e h with
      | none => simp only [hl, reduceCtorEq] at H
      | some p =>
        obtain ⟨l, i⟩ := p
        simp only [hl, dropK_eq, takeK_eq] at H
        by_cases h1 : i ≤ l.length
        case neg => rw [if_neg h1] at H; cases H
        rw [if_pos h1] at H
        by_cases h2 : n ≤ (l.drop i).length
        case neg => rw [if_neg h2] at H; cases H
        rw [if_pos h2] at H
        refine ⟨_, H, ?_, (fun h => by simp [isPure] at h), fun h => by cases h⟩
        intro L N hi j pv a w R
        obtain ⟨b, s, hp, hcc⟩ := R.look (R.reads d _ hc.1.1) hl
        obtain ⟨vs, h1, h2, h3⟩ := hcc.part i n h2
        refine ⟨.agg vs.toArray, ?_, VR.agg h1⟩
        simp only [execOp, hop, hp, Sem.run_bind, run_loadAt_many hc.1.2 hc.2 h2 h3, Result.andThen_ok, Sem.run_pure]
    case vla n d =>
      have hc : chkMem Pr (.vla n d) o.op = true := by
        have : chkCall (.vla n d) o.op = false := by unfold chkCall; split <;> rfl
        rw [this] at hc
        simpa [chkIns, isPure, isBad] using hc
      cases hop : o.op <;> simp only [chkMem, hop, Bool.false_eq_true] at hc
      simp only [Bool.and_eq_true] at hc
      change readK (ev d e) e .nl .fail (fun l o => dropK o l .fail fun t => takeK n t .fail fun r => k e (.agg r) nx h) = _ at H
      rw [readK_eq] at H
      cases hl : look (ev d e) e .nl with
      | none => simp only [hl, reduceCtorEq] at H
      | some p =>
        obtain ⟨l, i⟩ := p
        simp only [hl, dropK_eq, takeK_eq] at H
        by_cases h1 : i ≤ l.length
        case neg => rw [if_neg h1] at H; cases H
        rw [if_pos h1] at H
        by_cases h2 : n ≤ (l.drop i).length
        case neg => rw [if_neg h2] at H; cases H
        rw [if_pos h2] at H
        have S : ∀ (nx' : P) (h' : Hp), StillOk Pr o e nx' h' (.agg ((l.drop i).take n)) := by
          intro nx' h' L N hi j pv a w R
          obtain ⟨b, s, hp, hcc⟩ := R.look (R.reads d _ hc.1.1) (look_nl hl h')
          obtain ⟨vs, h1, h2, h3⟩ := hcc.part i n h2
          refine ⟨.agg vs.toArray, ?_, VR.agg h1⟩
          simp only [execOp, hop, hp, Sem.run_bind, run_loadAt_many hc.1.2 hc.2 h2 h3, Result.andThen_ok, Sem.run_pure]
        exact ⟨_, H, S nx h, (fun h => by simp [isPure] at h), fun _ => S .z .nl⟩
theorem op_did (hF : FOk Pr F) (hih : IhOk Pr ih) {Ls : List Nat} {N : Nat} {os : List Oper} {op : Op} {k : Ko} (H : opK op F ih wm e nx h k = .ok out eo no ho) (hc : chkOp Pr Ls N os op o = true) :
    ∃ e' nx' h', k e' nx' h' = .ok out eo no ho ∧ OpDid Pr o wm e nx h op e' nx' h' := by
  cases op with
  | mk dst g i =>
    simp only [chkOp, Bool.and_eq_true] at hc
    have run : opRun dst i F ih wm e nx h k = .ok out eo no ho → Guard e g true → ∃ e' nx' h', k e' nx' h' = .ok out eo no ho ∧ OpDid Pr o wm e nx h (.mk dst g i) e' nx' h' := by
      intro H G
      change insK i F ih wm e nx h (fun e v nx h => opDst dst v e fun e => k e nx h) = _ at H
      simp only [opDst_eq] at H
      by_cases hs : (isPure i || isLoad i) = true
      · obtain ⟨v, hk, S, hp, hq⟩ := still_sim hs H hc.2
        exact ⟨_, _, _, hk, .still G S hs hp hq⟩
      · obtain ⟨e1, v1, nx1, h1, hk1, hop, hm⟩ := all_sim hF hih H hc.2
        exact ⟨_, _, _, hk1, .run G hop hm (by simpa using hs)⟩
    have skip : opSkip dst e nx h k = .ok out eo no ho → Guard e g false → ∃ e' nx' h', k e' nx' h' = .ok out eo no ho ∧ OpDid Pr o wm e nx h (.mk dst g i) e' nx' h' := by
      intro H G
      change opDst dst (.tup []) e (fun e => k e nx h) = _ at H
      rw [opDst_eq] at H
      exact ⟨_, _, _, H, .pass G⟩
    cases g with
    | none => exact run H .no
    | some g =>
      obtain ⟨p, b⟩ := g
      change asB (evT p e) (asT (evT p e) .fail (opGn dst e nx h k)) (opGt dst i F ih wm e nx h k b) = _ at H
      rw [asB_eq, asT_eq] at H
      cases hp : evT p e <;> simp only [hp, reduceCtorEq] at H
      case bool t =>
        unfold opGt at H
        have G := Guard.is p b t hp
        rw [brec_if'] at H
        cases hb : beqB t b with
        | true => rw [hb] at H G; exact run H G
        | false => rw [hb] at H G; exact skip H G
      case tup l =>
        cases l with
        | nil => exact skip H (.un p b hp)
        | cons x l => cases H
  | loc p z =>
    change notVar p e (fun _ => Tr.setK p e (some (.var z)) fun e => k e nx h) = _ at H
    rw [notVar_eq] at H
    by_cases hv : isVar p e
    · rw [if_pos hv] at H; cases H
    · rw [if_neg hv, Tr.setK_eq] at H
      exact ⟨_, _, _, H, .loc hv⟩
  | locb p x =>
    change notVar p e (fun _ => ovK x e fun v => cellsK v .fail fun l => Tr.setK p e (some (.var l)) fun e => k e nx h) = _ at H
    rw [notVar_eq] at H
    by_cases hv : isVar p e
    · rw [if_pos hv] at H; cases H
    · rw [if_neg hv, ovK_eq, cellsK_eq] at H
      cases hl : (ov x e).cells with
      | none => simp only [hl, reduceCtorEq] at H
      | some l =>
        simp only [hl, Tr.setK_eq] at H
        exact ⟨_, _, _, H, .locb hv hl⟩
end
section
variable {Pr : Program} {F : Tr Fd} {ih : Ih} {wm : Option P} {e : Env} {nx : P} {h : Hp} {out : Out} {eo : Env} {no : P} {ho : Hp} {o : Oper}
theorem OpDid.moves {op : Op} {e' : Env} {nx' : P} {h' : Hp} (D : OpDid Pr o wm e nx h op e' nx' h') : MovesC wm nx h nx' h' := by
  cases D with
  | run G S M hs => exact M.c
  | _ => exact MovesC.refl _ _ _
theorem beqT {a b : Nat} (h : Nat.beq a b = true) : a = b := Nat.eq_of_beq_eq_true h
theorem okDst_some {Ls : List Nat} {N : Nat} {d : P} {d' : Option Nat} (h : okDst Ls N (some d) d' = true) : d' = some d.n ∧ ¬ vars Ls d ∧ d.n < N := by
  cases d' with
  | none => simp [okDst] at h
  | some t =>
    simp only [okDst, Bool.and_eq_true, Nat.ble_eq, Bool.not_eq_true'] at h
    have h1 := beqT h.1.1
    subst h1
    exact ⟨rfl, fun hv => by unfold vars at hv; rw [hv] at h; exact absurd h.2 (by decide), h.1.2⟩
theorem okDst_none {Ls : List Nat} {N : Nat} {d' : Option Nat} (h : okDst Ls N none d' = true) : d' = none := by
  cases d' with
  | none => rfl
  | some t => simp [okDst] at h
theorem okLoc_spec {Ls : List Nat} {N : Nat} {p : P} (h : okLoc Ls N p o = true) : o.dst = some p.n ∧ vars Ls p ∧ p.n < N ∧ o.guard = none := by
  unfold okLoc at h
  simp only [Bool.and_eq_true] at h
  cases hd : o.dst with
  | none => simp [hd] at h
  | some t =>
    simp only [hd, Bool.and_eq_true, Nat.ble_eq] at h
    have h1 := beqT h.1.1.1
    subst h1
    refine ⟨rfl, h.1.2, h.1.1.2, ?_⟩
    cases hg : o.guard with
    | none => rfl
    | some g => simp [hg] at h
theorem Rel.dst {Ls : List Nat} {N hi : Nat} {j : J} {pv : P → Option Nat} {a : Act} {w : World} (R : Rel (vars Ls) N hi j pv e nx h a w) {dst : Option P} {d' : Option Nat} (hd : okDst Ls N dst d' = true) {v : DV} {v' : Value} (hv : XD j pv v v') :
    Rel (vars Ls) N hi j pv (dstE dst v e) nx h (a.put d' v') w := by
  cases dst with
  | none => rw [okDst_none hd]; exact R
  | some d => obtain ⟨h1, h2, h3⟩ := okDst_some hd; rw [h1]; exact R.put h2 h3 hv
theorem wanted_none {ops : Array Oper} (hg : o.guard = none) (tm : Array Value) : Region.wanted o (yielded ops tm) = true := by unfold Region.wanted; rw [hg]
theorem run_alloc_al {w : World} {ρ : Operand → Value} {t : Nat} {it : TypeInfo} {zv : Value} (ho : o.op = .alloc t) (hi : Pr.info? t = some it) (hz : it.zero = some zv) :
    (execOp ρ o).run Pr w = .ok (.value (.pointer (some ⟨w.heap.size, 0, none⟩))) (w.alloc (.cells zv.cells t)) := by
  simp only [execOp, ho, Instr.alloc, Sem.run_bind, zeroValue, typeInfo, run_program, Result.andThen_ok, hi, Sem.run_pure, hz, newVar, newRow, run_newObj]
  rfl
theorem run_box_bx {w : World} {ρ : Operand → Value} {t : Nat} {x : Operand} (ho : o.op = .box t x) :
    (execOp ρ o).run Pr w = .ok (.value (.pointer (some ⟨w.heap.size, 0, none⟩))) (w.alloc (.cells (ρ x).cells t)) := by
  simp only [execOp, ho, Instr.box, Sem.run_bind, newVar, newRow, run_newObj, Result.andThen_ok, Sem.run_pure]
  rfl
theorem OpDid.wp {op : Op} {e' : Env} {nx' : P} {h' : Hp} (D : OpDid Pr o wm e nx h op e' nx' h') {ops : Array Oper} {Ls : List Nat} {N : Nat} (hc : chkOp Pr Ls N ops.toList op o = true) {hi : Nat} {j : J} {pv : P → Option Nat} {a : Act} {w : World}
    (R : Rel (vars Ls) N hi j pv e nx h a w) (hnh : nx'.n ≤ hi) {K : Act → World → Prop} {Q : Exit → Act → World → Prop}
    (hK : ∀ j' pv' a' w', Rel (vars Ls) N hi j' pv' e' nx' h' a' w' → Fr hi nx.n j pv w j' pv' w' → a'.defers = a.defers → K a' w') : OperWp Pr ops o K Q a w := by
  unfold OperWp
  cases D with
  | run G S M hs =>
    simp only [chkOp, Bool.and_eq_true] at hc
    rw [G.wanted R.reads hc.1.2 rfl, if_pos rfl]
    refine S (vars Ls) N hi j pv a w R hnh K Q ?_
    intro j' w' v' R' F' hx
    exact hK j' pv _ w' (R'.dst hc.1.1 hx) F' (put_defers _ _ _)
  | still G S hs =>
    simp only [chkOp, Bool.and_eq_true] at hc
    rw [G.wanted R.reads hc.1.2 rfl, if_pos rfl]
    refine S.op (vars Ls) N hi j pv a w R hnh K Q ?_
    intro j' w' v' R' F' hx
    exact hK j' pv _ w' (R'.dst hc.1.1 hx) F' (put_defers _ _ _)
  | pass G =>
    simp only [chkOp, Bool.and_eq_true] at hc
    rw [G.wanted R.reads hc.1.2 rfl, if_neg (by decide)]
    exact hK j pv _ w (R.dst hc.1.1 (v := .tup []) (VR.tup (l' := []) .nil)) (Fr.refl _ _ _ _ _) (put_defers _ _ _)
  | loc hv =>
    simp only [chkOp, Bool.and_eq_true] at hc
    obtain ⟨h1, h2, h3, h4⟩ := okLoc_spec hc.1
    have hcm := hc.2
    cases hop : o.op <;> simp only [chkMem, hop, Bool.false_eq_true] at hcm
    rename_i t
    cases hit : Pr.info? t with
    | none => simp [hit] at hcm
    | some it =>
      cases hz : it.zero with
      | none => simp [hit, hz] at hcm
      | some zv =>
        simp only [hit, hz] at hcm
        rw [wanted_none h4, if_pos rfl]
        unfold Oper.wp
        rw [run_alloc_al hop hit hz, Oper.upon_value, h1]
        obtain ⟨R', F'⟩ := R.var_new h2 h3 hv (okCs_sound j _ _ hcm) (t := t)
        exact hK j _ _ _ R' F' (put_defers _ _ _)
  | locb hv hcells =>
    simp only [chkOp, Bool.and_eq_true] at hc
    obtain ⟨h1, h2, h3, h4⟩ := okLoc_spec hc.1
    have hcm := hc.2
    cases hop : o.op <;> simp only [chkMem, hop, Bool.false_eq_true] at hcm
    rename_i t x
    rw [wanted_none h4, if_pos rfl]
    unfold Oper.wp
    rw [run_box_bx hop, Oper.upon_value, h1]
    obtain ⟨R', F'⟩ := R.var_new h2 h3 hv ((R.reads.ov hcm).cells hcells) (t := t)
    exact hK j _ _ _ R' F' (put_defers _ _ _)
theorem ops_sim (hF : FOk Pr F) (hih : IhOk Pr ih) {ops : Array Oper} {Ls : List Nat} {N : Nat} : ∀ (l : List Op) (i : Nat) (e : Env) (nx : P) (h : Hp) (k : Ko), opsK l F ih wm e nx h k = .ok out eo no ho → chkOps Pr Ls N ops.toList l (ops.toList.drop i) = true →
    ∃ e' nx' h', k e' nx' h' = .ok out eo no ho ∧ MovesC wm nx h nx' h' ∧ ∀ (hi : Nat) (j : J) (pv : P → Option Nat) (a : Act) (w : World), Rel (vars Ls) N hi j pv e nx h a w → nx'.n ≤ hi → ∀ Q : Exit → Act → World → Prop,
      (∀ j' pv' a' w', Rel (vars Ls) N hi j' pv' e' nx' h' a' w' → Fr hi nx.n j pv w j' pv' w' → a'.defers = a.defers → Q .normal a' w') → wpOps Pr ops Q (List.range' i (ops.size - i)) a w
  | [], i, e, nx, h, k, H, hc => by
    refine ⟨e, nx, h, H, MovesC.refl _ _ _, ?_⟩
    intro hi j pv a w R hnh Q hQ
    have hsz : ops.size - i = 0 := by
      cases hd : ops.toList.drop i with
      | nil => have := List.drop_eq_nil_iff.1 hd; simp at this; omega
      | cons x l => rw [hd] at hc; simp [chkOps] at hc
    rw [hsz]
    exact hQ j pv a w R (Fr.refl _ _ _ _ _) rfl
  | op :: l, i, e, nx, h, k, H, hc => by
    cases hd : ops.toList.drop i with
    | nil => rw [hd] at hc; simp [chkOps] at hc
    | cons o os =>
      rw [hd] at hc
      simp only [chkOps, Bool.and_eq_true] at hc
      have hlt : i < ops.size := by
        rcases Nat.lt_or_ge i ops.size with h | h
        · exact h
        · rw [List.drop_eq_nil_iff.2 (by simpa using h)] at hd; cases hd
      have ho' : ops[i]? = some o := by
        rw [← Array.getElem?_toList, ← List.head?_drop, hd]; rfl
      have hos : ops.toList.drop (i + 1) = os := by
        rw [← List.tail_drop, hd]; rfl
      change opK op F ih wm e nx h (fun e nx h => opsK l F ih wm e nx h k) = _ at H
      obtain ⟨e1, nx1, h1, H1, D⟩ := op_did hF hih H hc.1
      obtain ⟨e2, nx2, h2, H2, M2, W2⟩ := ops_sim hF hih l (i + 1) e1 nx1 h1 k H1 (by rw [hos]; exact hc.2)
      refine ⟨e2, nx2, h2, H2, D.moves.trans M2, ?_⟩
      intro hi j pv a w R hnh Q hQ
      have hr : List.range' i (ops.size - i) = i :: List.range' (i + 1) (ops.size - (i + 1)) := by
        rw [show ops.size - i = (ops.size - (i + 1)) + 1 by omega, List.range'_succ]
      rw [hr]
      have W := D.wp hc.1 R (Nat.le_trans M2.le hnh) (K := wpOps Pr ops Q (List.range' (i + 1) (ops.size - (i + 1)))) (Q := Q) (by
        intro j' pv' a' w' R' F' hdf
        refine W2 hi j' pv' a' w' R' hnh Q ?_
        intro j2 pv2 a2 w2 R2 F2 hd2
        exact hQ j2 pv2 a2 w2 R2 (F'.trans F2 D.moves.le) (hd2.trans hdf))
      unfold OperWp at W
      simp only [wpOps, ho']
      by_cases hw : Region.wanted o (yielded ops a.tmps) = true
      · rw [if_pos hw] at W ⊢; exact .inl W
      · rw [if_neg hw] at W ⊢; exact W
end
section
variable {L : P → Prop} {N hi : Nat} {j : J} {pv : P → Option Nat} {e : Env} {nx : P} {h : Hp} {a : Act} {w : World}
open Classical in
def pvOf (pv : P → Option Nat) (e : Env) : P → Option Nat := fun p => if isVar p e then pv p else none
theorem pvOf_some {p : P} {b : Nat} (h : pvOf pv e p = some b) : isVar p e ∧ pv p = some b := by
  unfold pvOf at h
  by_cases hv : isVar p e
  · rw [if_pos hv] at h; exact ⟨hv, h⟩
  · rw [if_neg hv] at h; cases h
theorem pvOf_var {p : P} (h : isVar p e) : pvOf pv e p = pv p := if_pos h
theorem Rel.sub (R : Rel L N hi j pv e nx h a w) {e' : Env} (hs : ∀ p v, Tr.get? p e' = some v → Tr.get? p e = some v) (hf : ∀ p q o, Tr.get? p e' = some (.fld q o) → isVar q e') : Rel L N hi j (pvOf pv e') e' nx h a w where
  fresh := R.fresh
  heap := R.heap
  inj := R.inj
  inr := R.inr
  env := fun p v hv => by
    have hr := R.env p v (hs p v hv)
    cases v
    case fld q o =>
      obtain ⟨b, hb, ht⟩ := hr
      exact ⟨b, by rw [pvOf_var (hf p q o hv)]; exact hb, ht⟩
    case var l =>
      obtain ⟨b, hb, ht⟩ := hr
      exact ⟨b, by rw [pvOf_var ⟨l, hv⟩]; exact hb, ht⟩
    all_goals exact hr
  pvv := fun p b hp => (pvOf_some hp).1
  pin := fun p q b hp hq => R.pin p q b (pvOf_some hp).2 (pvOf_some hq).2
  pfr := fun p b hp => R.pfr p b (pvOf_some hp).2
  pfo := fun p b hp => R.pfo p b (pvOf_some hp).2
  loc := fun p l hl => R.loc p l (hs p _ hl)
  size := R.size
  lt := R.lt
  lr := R.lr
  top := R.top
theorem keep_spec (e : Env) : ∀ (l : List P) (acc : Env), (∀ p v, Tr.get? p acc = some v → Tr.get? p e = some v ∧ ∀ q o, v ≠ .fld q o) → ∀ p v, Tr.get? p (keep e l acc) = some v → Tr.get? p e = some v ∧ ∀ q o, v ≠ .fld q o
  | [], acc, ha, p, v, hv => ha p v hv
  | q :: l, acc, ha, p, v, hv => by
    simp only [keep] at hv
    have step : ∀ u, Tr.get? q e = some u → (∀ q' o, u ≠ .fld q' o) → ∀ p v, Tr.get? p (Tr.set q acc (some u)) = some v → Tr.get? p e = some v ∧ ∀ q o, v ≠ .fld q o := by
      intro u hu hn p v hv
      by_cases hp : p = q
      · subst hp; rw [Tr.get_set_self] at hv; cases hv; exact ⟨hu, hn⟩
      · rw [Tr.get_set_ne hp] at hv; exact ha p v hv
    cases hq : Tr.get? q e with
    | none => rw [hq] at hv; exact keep_spec e l acc ha p v hv
    | some u =>
      rw [hq] at hv
      cases u
      case fld => exact keep_spec e l acc ha p v hv
      all_goals exact keep_spec e l _ (step _ hq (by intro q' o h; cases h)) p v hv
theorem Rel.keep (R : Rel L N hi j pv e nx h a w) (l : List P) : ∃ pv', Rel L N hi j pv' (keep e l .nl) nx h a w ∧ Fr hi nx.n j pv w j pv' w := by
  have hk := keep_spec e l .nl (fun p v hv => by rw [Tr.get_e] at hv; cases hv)
  refine ⟨_, R.sub (fun p v hv => (hk p v hv).1) (fun p q o hv => absurd rfl ((hk p _ hv).2 q o)), ?_⟩
  exact { Fr.refl hi nx.n j pv w with pnew := fun p x hp => .inl (pvOf_some hp).2 }
end
inductive Bef (os : List Oper) : Nat → Nat → Prop
  | one {k i : Nat} {o : Oper} (ho : os[k]? = some o) (hi : i ∈ edges o) : Bef os k i
  | more {k m i : Nat} {o : Oper} (ho : os[k]? = some o) (hm : m ∈ edges o) (h : Bef os m i) : Bef os k i
theorem maskOf_spec {os : List Oper} {acc : List Nat} (hacc : ∀ m i, Nat.testBit (acc.getD m 0) i = true → Bef os m i) {k : Nat} {o : Oper} (ho : os[k]? = some o) : ∀ (l : List Nat), (∀ m ∈ l, m ∈ edges o) → ∀ i, Nat.testBit (maskOf acc l) i = true → Bef os k i
  | [], _, i, h => by simp [maskOf] at h
  | m :: l, hl, i, h => by
    have h' : Nat.testBit (((1 <<< m) ||| (acc.getD m 0)) ||| maskOf acc l) i = true := h
    rw [Nat.testBit_or, Nat.testBit_or, Bool.or_eq_true, Bool.or_eq_true] at h'
    rcases h' with (h1 | h1) | h1
    · rw [Nat.testBit_shiftLeft] at h1
      simp only [Bool.and_eq_true, decide_eq_true_eq] at h1
      have : i = m := by
        have h2 := h1.2
        rcases Nat.eq_zero_or_pos (i - m) with h0 | h0
        · omega
        · rw [show (1 : Nat) = 2 ^ 0 from rfl, Nat.testBit_two_pow] at h2
          simp at h2; omega
      subst this
      exact .one ho (hl _ (by simp))
    · exact .more ho (hl m (by simp)) (hacc m i h1)
    · exact maskOf_spec hacc ho l (fun m hm => hl m (by simp [hm])) i h1
theorem maskAll_spec {os : List Oper} : ∀ (l : List Oper) (acc : List Nat), (∀ m i, Nat.testBit (acc.getD m 0) i = true → Bef os m i) → os.drop acc.length = l → ∀ m i, Nat.testBit ((maskAll l acc).getD m 0) i = true → Bef os m i
  | [], acc, hacc, _, m, i, h => hacc m i h
  | o :: l, acc, hacc, hd, m, i, h => by
    have ho : os[acc.length]? = some o := by rw [← List.head?_drop, hd]; rfl
    refine maskAll_spec l (acc ++ [maskOf acc (edges o)]) ?_ ?_ m i h
    · intro m' i' h'
      rw [List.getD_eq_getElem?_getD] at h'
      by_cases h1 : m' < acc.length
      · rw [List.getElem?_append_left h1, ← List.getD_eq_getElem?_getD] at h'; exact hacc m' i' h'
      · rw [List.getElem?_append_right (by omega)] at h'
        by_cases h2 : m' = acc.length
        · subst h2
          simp only [Nat.sub_self, List.getElem?_cons_zero, Option.getD_some] at h'
          exact maskOf_spec hacc ho _ (fun _ h => h) i' h'
        · rw [List.getElem?_eq_none (by simp; omega)] at h'; simp at h'
    · rw [List.length_append, List.length_singleton, ← List.tail_drop, hd]; rfl
theorem ordRow_spec {os : List Oper} {y : Dop} {m k : Nat} (hm : ∀ i, Nat.testBit m i = true → Bef os k i) : ∀ (l : List Dop) (s : Nat), ordRow y m l s = true → ∀ (i : Nat) (x : Dop), l[i]? = some x → clash x y = true → Bef os k (s + i)
  | [], s, _, i, x, hx, _ => by simp at hx
  | z :: l, s, h, i, x, hx, hc => by
    simp only [ordRow, Bool.and_eq_true, Bool.or_eq_true, Bool.not_eq_true'] at h
    cases i with
    | zero =>
      simp at hx; subst hx
      rcases h.1 with h1 | h1
      · rw [hc] at h1; cases h1
      · exact hm _ h1
    | succ i => have := ordRow_spec hm l (s + 1) h.2 i x (by simpa using hx) hc; rwa [show s + (i + 1) = s + 1 + i by omega]
theorem ordAll_spec {os : List Oper} {ms : List Nat} (hms : ∀ m i, Nat.testBit (ms.getD m 0) i = true → Bef os m i) (all : List Dop) : ∀ (l : List Dop) (k : Nat), ordAll ms all l k = true → ∀ (i j : Nat) (x y : Dop), (all.take (k + j))[i]? = some x → l[j]? = some y → clash x y = true → Bef os (k + j) i
  | [], k, _, i, j, x, y, _, hy, _ => by simp at hy
  | z :: l, k, h, i, j, x, y, hx, hy, hc => by
    simp only [ordAll, Bool.and_eq_true] at h
    cases j with
    | zero =>
      simp at hy; subst hy
      have := ordRow_spec (hms k) _ 0 h.1 i x (by simpa using hx) hc
      simpa using this
    | succ j => have := ordAll_spec hms all l (k + 1) h.2 i j x y (by rwa [show k + 1 + j = k + (j + 1) by omega]) (by simpa using hy) hc; rwa [show k + (j + 1) = k + 1 + j by omega]
theorem edgesOk_spec {os : List Oper} : ∀ (l : List Oper) (k : Nat), edgesOk l k = true → ∀ (i : Nat) (o : Oper), l[i]? = some o → ∀ m ∈ edges o, m < k + i
  | [], k, _, i, o, ho, m, hm => by simp at ho
  | z :: l, k, h, i, o, ho, m, hm => by
    simp only [edgesOk, Bool.and_eq_true, List.all_eq_true, Nat.ble_eq] at h
    cases i with
    | zero => simp at ho; subst ho; have := h.1 m hm; omega
    | succ i => have := edgesOk_spec (os := os) l (k + 1) h.2 i o (by simpa using ho) m hm; omega
theorem allIn_spec {f : P → Bool} : ∀ {l : List P}, allIn f l = true → ∀ p ∈ l, f p = true
  | [], _, p, hp => by simp at hp
  | q :: l, h, p, hp => by
    simp only [allIn, Bool.and_eq_true] at h
    rcases List.mem_cons.1 hp with rfl | hp
    · exact h.1
    · exact allIn_spec h.2 p hp
theorem anyP_of {l m : List P} {p : P} (h1 : p ∈ l) (h2 : p ∈ m) : anyP l m = true := by
  unfold anyP; rw [List.any_eq_true]; exact ⟨p, h1, (memP_iff p m).2 h2⟩
structure DrwOk (Pr : Program) (Ls : List Nat) (N : Nat) (ds : List Dop) (os : List Oper) : Prop where
  ops : ∀ (i : Nat) (d : Dop) (o : Oper), ds[i]? = some d → os[i]? = some o → chkOp Pr Ls N os (opD d) o = true
  len : ds.length = os.length
  dop : ∀ (i : Nat) (d : Dop), ds[i]? = some d → okDop Ls d = true
  edge : ∀ (i : Nat) (o : Oper), os[i]? = some o → ∀ m ∈ edges o, m < i
  ord : ∀ (i k : Nat) (x y : Dop), i < k → ds[i]? = some x → ds[k]? = some y → clash x y = true → Bef os k i
theorem chkOps_spec {Pr : Program} {Ls : List Nat} {N : Nat} {os : List Oper} : ∀ (l : List Op) (l' : List Oper), chkOps Pr Ls N os l l' = true → l.length = l'.length ∧ ∀ (i : Nat) (d : Op) (o : Oper), l[i]? = some d → l'[i]? = some o → chkOp Pr Ls N os d o = true
  | [], [], _ => ⟨rfl, fun i d o hd => by simp at hd⟩
  | [], _ :: _, h => by simp [chkOps] at h
  | _ :: _, [], h => by simp [chkOps] at h
  | d :: l, o :: l', h => by
    simp only [chkOps, Bool.and_eq_true] at h
    obtain ⟨h1, h2⟩ := chkOps_spec l l' h.2
    refine ⟨by simp [h1], fun i d' o' hd ho => ?_⟩
    cases i with
    | zero => simp at hd ho; subst hd; subst ho; exact h.1
    | succ i => exact h2 i d' o' (by simpa using hd) (by simpa using ho)
theorem chkDrw_spec {Pr : Program} {Ls : List Nat} {N : Nat} {ds : List Dop} {os : List Oper} (h : chkDrw Pr Ls N ds os = true) : DrwOk Pr Ls N ds os := by
  simp only [chkDrw, Bool.and_eq_true, List.all_eq_true] at h
  obtain ⟨⟨⟨h1, h2⟩, h3⟩, h4⟩ := h
  obtain ⟨h5, h6⟩ := chkOps_spec _ _ h1
  refine ⟨fun i d o hd ho => h6 i (opD d) o (by simp [hd]) ho, by simpa using h5, fun i d hd => h2 d (List.mem_of_getElem? hd), fun i o ho m hm => by have := edgesOk_spec (os := os) os 0 h3 i o ho m hm; omega, ?_⟩
  intro i k x y hik hx hy hc
  have := ordAll_spec (maskAll_spec os [] (fun m i h => by simp at h) rfl) ds ds 0 h4 i k x y (by rw [List.getElem?_take, if_pos (by omega)]; exact hx) hy hc
  simpa using this
theorem clash_comm_w {x y : Dop} (h : clash x y = true) : clash y x = true := by
  unfold clash at *
  simp only [Bool.or_eq_true, Bool.and_eq_true] at h ⊢
  have ac : ∀ l m, anyP l m = true → anyP m l = true := by
    intro l m h
    unfold anyP at h
    rw [List.any_eq_true] at h
    obtain ⟨p, h1, h2⟩ := h
    exact anyP_of ((memP_iff p m).1 h2) h1
  rcases h with (((h | h) | h) | h) | h
  · exact .inl (.inl (.inl (.inr ⟨h.2, h.1⟩)))
  · exact .inl (.inl (.inl (.inl ⟨h.2, h.1⟩)))
  · exact .inl (.inr (ac _ _ h))
  · exact .inl (.inl (.inr (ac _ _ h)))
  · exact .inr (ac _ _ h)
def Down (os : List Oper) (S : Nat → Prop) : Prop := ∀ (i : Nat) (o : Oper), S i → os[i]? = some o → ∀ m ∈ edges o, S m
theorem Down.bef {os : List Oper} {S : Nat → Prop} (hS : Down os S) {k i : Nat} (h : Bef os k i) : S k → S i := by
  induction h with
  | one ho hi => exact fun hk => hS _ _ hk ho _ hi
  | more ho hm _ ih => exact fun hk => ih (hS _ _ hk ho _ hm)
theorem DrwOk.side {Pr : Program} {Ls : List Nat} {N : Nat} {ds : List Dop} {os : List Oper} (D : DrwOk Pr Ls N ds os) {S : Nat → Prop} (hS : Down os S) {i : Nat} {o : Oper} (ho : os[i]? = some o) (hr : ∀ m ∈ edges o, S m) (hn : ¬ S i)
    {x y : Dop} {q : Nat} (hx : ds[q]? = some x) (hy : ds[i]? = some y) (hc : clash x y = true) : q < i ↔ S q := by
  rcases Nat.lt_trichotomy q i with h | h | h
  · refine ⟨fun _ => ?_, fun _ => h⟩
    have hb := D.ord q i x y h hx hy hc
    cases hb with
    | one ho' hi => rw [ho] at ho'; cases ho'; exact hr _ hi
    | more ho' hm hb => rw [ho] at ho'; cases ho'; exact hS.bef hb (hr _ hm)
  · subst h; exact ⟨fun h => absurd h (Nat.lt_irrefl _), fun h => absurd h hn⟩
  · refine ⟨fun h' => absurd h' (by omega), fun hq => ?_⟩
    exact absurd (hS.bef (D.ord i q y x h hy hx (clash_comm_w hc)) hq) hn
section
variable {Pr : Program} {F : Tr Fd} {ih : Ih} {wm : Option P} {out : Out} {eo : Env} {no : P} {ho : Hp}
def DStep (Pr : Program) (wm : Option P) (d : Dop) (o : Oper) (e : Env) (nx : P) (h : Hp) (e' : Env) (nx' : P) (h' : Hp) : Prop :=
  match d with
  | .mk c u b r op => ∃ r1, OpDid Pr o (wmOf r nx wm) (use c e u .nl) nx h op r1 nx' h' ∧ e' = back r1 b e
theorem wmOf_old {r : Bool} {nx nx' : P} {h h' : Hp} (M : MovesC (wmOf r nx wm) nx h nx' h') (hle : ∀ m, wm = some m → m.n ≤ nx.n) : MovesC wm nx h nx' h' := by
  refine ⟨M.le, fun m hm hmn k hk => ?_, M.top⟩
  cases r with
  | false => exact M.old m hm hmn k hk
  | true => exact M.old nx rfl (Nat.le_refl _) k (Nat.lt_of_lt_of_le hk (hle m hm))
theorem DStep.moves {d : Dop} {o : Oper} {e e' : Env} {nx nx' : P} {h h' : Hp} (D : DStep Pr wm d o e nx h e' nx' h') (hle : ∀ m, wm = some m → m.n ≤ nx.n) : MovesC wm nx h nx' h' := by
  obtain ⟨c, u, b, r, op⟩ := d
  obtain ⟨r1, hd, _⟩ := D
  exact wmOf_old hd.moves hle
structure Sts (Pr : Program) (wm : Option P) (ds : List Dop) (os : List Oper) (e : Env) (nx : P) (h : Hp) (E : Nat → Env) (X : Nat → P) (H : Nat → Hp) : Prop where
  e0 : E 0 = e
  x0 : X 0 = nx
  h0 : H 0 = h
  step : ∀ (i : Nat) (d : Dop) (o : Oper), ds[i]? = some d → os[i]? = some o → DStep Pr wm d o (E i) (X i) (H i) (E (i + 1)) (X (i + 1)) (H (i + 1))
theorem dops_sim (hF : FOk Pr F) (hih : IhOk Pr ih) {all : List Oper} {Ls : List Nat} {N : Nat} : ∀ (ds : List Dop) (os : List Oper) (e : Env) (nx : P) (h : Hp) (k : Ko), dopsK ds F ih wm e nx h k = .ok out eo no ho → chkOps Pr Ls N all (ds.map opD) os = true →
    ∃ E X H, Sts Pr wm ds os e nx h E X H ∧ k (E ds.length) (X ds.length) (H ds.length) = .ok out eo no ho
  | [], os, e, nx, h, k, hk, _ => ⟨fun _ => e, fun _ => nx, fun _ => h, ⟨rfl, rfl, rfl, fun i d o hd => by simp at hd⟩, hk⟩
  | d :: ds, [], e, nx, h, k, hk, hc => by simp [chkOps] at hc
  | d :: ds, o :: os, e, nx, h, k, hk, hc => by
    simp only [List.map_cons, chkOps, Bool.and_eq_true] at hc
    obtain ⟨c, u, b, r, op⟩ := d
    change useK c u e .nl (fun r0 => opK op F ih (wmOf r nx wm) r0 nx h fun r1 nx h => backK b r1 e fun e => dopsK ds F ih wm e nx h k) = _ at hk
    rw [useK_eq] at hk
    simp only [backK_eq] at hk
    obtain ⟨r1, nx1, h1, hk1, D⟩ := op_did hF hih hk hc.1
    obtain ⟨E, X, H, st, hk2⟩ := dops_sim hF hih ds os _ nx1 h1 k hk1 hc.2
    refine ⟨fun i => match i with | 0 => e | i + 1 => E i, fun i => match i with | 0 => nx | i + 1 => X i, fun i => match i with | 0 => h | i + 1 => H i, ⟨rfl, rfl, rfl, ?_⟩, hk2⟩
    intro i d' o' hd ho
    cases i with
    | zero =>
      simp at hd ho; subst hd; subst ho
      refine ⟨r1, ?_, st.e0⟩
      show OpDid Pr o (wmOf r nx wm) (use c e u .nl) nx h op r1 (X 0) (H 0)
      rw [st.x0, st.h0]; exact D
    | succ i => exact st.step i d' o' (by simpa using hd) (by simpa using ho)
section
variable {ds : List Dop} {os : List Oper} {e : Env} {nx : P} {h : Hp} {E : Nat → Env} {X : Nat → P} {H : Nat → Hp}
theorem Sts.mono (st : Sts Pr wm ds os e nx h E X H) (hl : ds.length = os.length) (hle : ∀ m, wm = some m → m.n ≤ nx.n) : ∀ (n : Nat), n ≤ ds.length → MovesC wm nx h (X n) (H n) := by
  intro n
  induction n with
  | zero => intro _; rw [st.x0, st.h0]; exact MovesC.refl _ _ _
  | succ n ih =>
    intro hn
    have M := ih (by omega)
    have hd := st.step n ds[n] os[n] (List.getElem?_eq_getElem (by omega)) (List.getElem?_eq_getElem (by omega))
    exact M.trans (hd.moves fun m hm => Nat.le_trans (hle m hm) M.le)
theorem Sts.top (st : Sts Pr wm ds os e nx h E X H) (hl : ds.length = os.length) (ht : ∀ k : P, nx.n ≤ k.n → Tr.get? k h = none) : ∀ (n : Nat), n ≤ ds.length → ∀ k : P, (X n).n ≤ k.n → Tr.get? k (H n) = none := by
  intro n
  induction n with
  | zero => intro _; rw [st.x0, st.h0]; exact ht
  | succ n ih =>
    intro hn
    have hd := st.step n ds[n] os[n] (List.getElem?_eq_getElem (by omega)) (List.getElem?_eq_getElem (by omega))
    cases hdd : ds[n] with
    | mk c u b r op => rw [hdd] at hd; obtain ⟨r1, hd, _⟩ := hd; exact hd.moves.top (ih (by omega))
theorem Sts.one_le (st : Sts Pr wm ds os e nx h E X H) (hl : ds.length = os.length) {i : Nat} (hi : i < ds.length) : (X i).n ≤ (X (i + 1)).n := by
  have hd := st.step i ds[i] os[i] (List.getElem?_eq_getElem hi) (List.getElem?_eq_getElem (by omega))
  cases hdd : ds[i] with
  | mk c u b r op => rw [hdd] at hd; obtain ⟨r1, hd, _⟩ := hd; exact hd.moves.le
theorem Sts.le (st : Sts Pr wm ds os e nx h E X H) (hl : ds.length = os.length) {i k : Nat} (hik : i ≤ k) (hk : k ≤ ds.length) : (X i).n ≤ (X k).n := by
  induction k with
  | zero => rw [show i = 0 by omega]; exact Nat.le_refl _
  | succ k ih =>
    rcases Nat.lt_or_ge i (k + 1) with h | h
    · exact Nat.le_trans (ih (by omega) (by omega)) (st.one_le hl (by omega))
    · rw [show i = k + 1 by omega]; exact Nat.le_refl _
theorem backP_ne {p q : P} (h : q ≠ p) (r e : Env) : Tr.get? q (backP p r e) = Tr.get? q e := by
  unfold backP; cases Tr.get? p r with
  | none => rfl
  | some v => exact Tr.get_set_ne h _ _
theorem back_out (r : Env) : ∀ (b : List P) (e : Env) (q : P), q ∉ b → Tr.get? q (back r b e) = Tr.get? q e
  | [], e, q, _ => rfl
  | p :: b, e, q, hq => by
    simp only [back]
    rw [back_out r b _ q (fun h => hq (by simp [h])), backP_ne (fun h => hq (by simp [h]))]
theorem back_none (r : Env) (q : P) (hr : Tr.get? q r = none) : ∀ (b : List P) (e : Env), Tr.get? q (back r b e) = Tr.get? q e
  | [], e => rfl
  | p :: b, e => by
    simp only [back]
    rw [back_none r q hr b]
    by_cases h : q = p
    · subst h; unfold backP; rw [hr]
    · exact backP_ne h _ _
theorem back_in (r : Env) (q : P) {v : DV} (hr : Tr.get? q r = some v) : ∀ (b : List P) (e : Env), q ∈ b → Tr.get? q (back r b e) = some v
  | [], e, hq => by simp at hq
  | p :: b, e, hq => by
    simp only [back]
    by_cases hb : q ∈ b
    · exact back_in r q hr b _ hb
    · rw [back_out r b _ q hb]
      rcases List.mem_cons.1 hq with rfl | h
      · unfold backP; rw [hr]; exact Tr.get_set_self _ _ _
      · exact absurd h hb
theorem Sts.env_stays (st : Sts Pr wm ds os e nx h E X H) (hl : ds.length = os.length) {p : P} {t : Nat} : ∀ (t' : Nat), t ≤ t' → t' ≤ ds.length → (∀ (q : Nat) (d : Dop), t ≤ q → q < t' → ds[q]? = some d → p ∉ backD d) → Tr.get? p (E t') = Tr.get? p (E t) := by
  intro t'
  induction t' with
  | zero => intro h1 _ _; rw [show t = 0 by omega]
  | succ t' ih =>
    intro h1 h2 h3
    rcases Nat.lt_or_ge t (t' + 1) with hlt | hge
    · rw [← ih (by omega) (by omega) (fun q d hq1 hq2 hd => h3 q d hq1 (by omega) hd)]
      have hd := st.step t' ds[t'] os[t'] (List.getElem?_eq_getElem (by omega)) (List.getElem?_eq_getElem (by omega))
      have hp := h3 t' ds[t'] (by omega) (by omega) (List.getElem?_eq_getElem (by omega))
      cases hdd : ds[t'] with
      | mk c u b r op =>
        rw [hdd] at hd hp
        obtain ⟨r1, _, he⟩ := hd
        rw [he]
        exact back_out r1 b _ p hp
    · rw [show t = t' + 1 by omega]
theorem Sts.heap_one (st : Sts Pr wm ds os e nx h E X H) {i : Nat} {d : Dop} {o : Oper} (hd : ds[i]? = some d) (ho : os[i]? = some o) (hw : isW d = false) {k : P} (hk : k.n < (X i).n) : Tr.get? k (H (i + 1)) = Tr.get? k (H i) := by
  have D := st.step i d o hd ho
  obtain ⟨c, u, b, r, op⟩ := d
  obtain ⟨r1, D, _⟩ := D
  generalize hx : X (i + 1) = x at D
  generalize hh : H (i + 1) = hp at D
  cases D with
  | run G S M hs =>
    have hr : r = true := by
      cases r with
      | true => rfl
      | false => simp [isW, stillO, isVarO, hs] at hw
    subst hr
    exact M.old (X i) rfl (Nat.le_refl _) k hk
  | _ => rfl
theorem Sts.heap_stays (st : Sts Pr wm ds os e nx h E X H) (hl : ds.length = os.length) {k : P} {t : Nat} (hk : k.n < (X t).n) : ∀ (t' : Nat), t ≤ t' → t' ≤ ds.length → (∀ (q : Nat) (d : Dop), t ≤ q → q < t' → ds[q]? = some d → isW d = false) → Tr.get? k (H t') = Tr.get? k (H t) := by
  intro t'
  induction t' with
  | zero => intro h1 _ _; rw [show t = 0 by omega]
  | succ t' ih =>
    intro h1 h2 h3
    rcases Nat.lt_or_ge t (t' + 1) with hlt | hge
    · rw [← ih (by omega) (by omega) (fun q d hq1 hq2 hd => h3 q d hq1 (by omega) hd)]
      exact st.heap_one (List.getElem?_eq_getElem (by omega)) (List.getElem?_eq_getElem (by omega)) (h3 t' ds[t'] (by omega) (by omega) (List.getElem?_eq_getElem (by omega))) (Nat.lt_of_lt_of_le hk (st.le hl (by omega) (by omega)))
    · rw [show t = t' + 1 by omega]
def VE (ds : List Dop) (S : Nat → Prop) (p : P) (t : Nat) : Prop := ∀ (q : Nat) (d : Dop), ds[q]? = some d → p ∈ backD d → (q < t ↔ S q)
def VT (ds : List Dop) (S : Nat → Prop) (t : Nat) : Prop := ∀ (q : Nat) (d : Dop), ds[q]? = some d → isW d = true → (q < t ↔ S q)
theorem Sts.env_same (st : Sts Pr wm ds os e nx h E X H) (hl : ds.length = os.length) {S : Nat → Prop} {p : P} {t t' : Nat} (ht : t ≤ ds.length) (ht' : t' ≤ ds.length) (h1 : VE ds S p t) (h2 : VE ds S p t') : Tr.get? p (E t') = Tr.get? p (E t) := by
  rcases Nat.le_total t t' with h | h
  · refine st.env_stays hl t' h ht' ?_
    intro q d hq1 hq2 hd hp
    have := (h1 q d hd hp).2 ((h2 q d hd hp).1 hq2); omega
  · refine (st.env_stays hl t h ht ?_).symm
    intro q d hq1 hq2 hd hp
    have := (h2 q d hd hp).2 ((h1 q d hd hp).1 hq2); omega
theorem Sts.heap_same (st : Sts Pr wm ds os e nx h E X H) (hl : ds.length = os.length) {S : Nat → Prop} {k : P} {t t' : Nat} (ht : t ≤ ds.length) (ht' : t' ≤ ds.length) (h1 : VT ds S t) (h2 : VT ds S t') (hk : k.n < (X t).n) (hk' : k.n < (X t').n) : Tr.get? k (H t') = Tr.get? k (H t) := by
  rcases Nat.le_total t t' with h | h
  · refine st.heap_stays hl hk t' h ht' ?_
    intro q d hq1 hq2 hd
    cases hw : isW d with
    | false => rfl
    | true => have := (h1 q d hd hw).2 ((h2 q d hd hw).1 hq2); omega
  · refine (st.heap_stays hl hk' t h ht ?_).symm
    intro q d hq1 hq2 hd
    cases hw : isW d with
    | false => rfl
    | true => have := (h2 q d hd hw).2 ((h1 q d hd hw).1 hq2); omega
theorem useP_sub {e acc : Env} {p : P} (ha : ∀ q v, Tr.get? q acc = some v → Tr.get? q e = some v) : ∀ q v, Tr.get? q (useP true p e acc) = some v → Tr.get? q e = some v := by
  intro q v hv
  unfold useP at hv
  cases hp : Tr.get? p e with
  | none => rw [hp] at hv; exact ha q v hv
  | some u =>
    rw [hp] at hv
    have set : ∀ u, Tr.get? p e = some u → Tr.get? q (Tr.set p acc (some u)) = some v → Tr.get? q e = some v := by
      intro u hu hv
      by_cases hq : q = p
      · subst hq; rw [Tr.get_set_self] at hv; cases hv; exact hu
      · rw [Tr.get_set_ne hq] at hv; exact ha q v hv
    cases u
    case fld q' o =>
      simp only [] at hv
      cases hq' : Tr.get? q' acc with
      | none => rw [hq'] at hv; exact ha q v hv
      | some x =>
        rw [hq'] at hv
        cases x <;> first | exact ha q v hv | exact set _ hp hv
    all_goals exact set _ hp hv
theorem useP_fld {e acc : Env} {p : P} (hae : ∀ q v, Tr.get? q acc = some v → Tr.get? q e = some v) (ha : ∀ q q' o, Tr.get? q acc = some (.fld q' o) → isVar q' acc) : ∀ q q' o, Tr.get? q (useP true p e acc) = some (.fld q' o) → isVar q' (useP true p e acc) := by
  intro q q' o hv
  unfold useP at hv ⊢
  cases hp : Tr.get? p e with
  | none => rw [hp] at hv; exact ha q q' o hv
  | some u =>
    rw [hp] at hv
    have keepv : ∀ u q', Tr.get? p e = some u → isVar q' acc → isVar q' (Tr.set p acc (some u)) := by
      rintro u q' hu ⟨l, hl⟩
      by_cases hq : q' = p
      · subst hq
        have := hae _ _ hl
        rw [hu] at this; cases this
        exact ⟨l, Tr.get_set_self _ _ _⟩
      · exact ⟨l, by rw [Tr.get_set_ne hq]; exact hl⟩
    have set : ∀ u, Tr.get? p e = some u → (∀ q' o, u = .fld q' o → isVar q' acc) → Tr.get? q (Tr.set p acc (some u)) = some (.fld q' o) → isVar q' (Tr.set p acc (some u)) := by
      intro u hu hf hv
      by_cases hq : q = p
      · subst hq
        rw [Tr.get_set_self] at hv; cases hv
        exact keepv _ _ hu (hf _ _ rfl)
      · rw [Tr.get_set_ne hq] at hv; exact keepv _ _ hu (ha q q' o hv)
    cases u
    case fld q'' o' =>
      simp only [] at hv ⊢
      cases hq' : Tr.get? q'' acc with
      | none => rw [hq'] at hv; exact ha q q' o hv
      | some x =>
        rw [hq'] at hv
        cases x
        case var l => exact set _ hp (fun q3 o3 h => by cases h; exact ⟨l, hq'⟩) hv
        all_goals exact ha q q' o hv
    all_goals exact set _ hp (fun _ _ h => by cases h) hv
theorem use_sub {e : Env} : ∀ (u : List P) (acc : Env), (∀ q v, Tr.get? q acc = some v → Tr.get? q e = some v) → ∀ q v, Tr.get? q (use true e u acc) = some v → Tr.get? q e = some v
  | [], acc, ha => ha
  | p :: u, acc, ha => use_sub u _ (useP_sub ha)
theorem use_fld {e : Env} : ∀ (u : List P) (acc : Env), (∀ q v, Tr.get? q acc = some v → Tr.get? q e = some v) → (∀ q q' o, Tr.get? q acc = some (.fld q' o) → isVar q' acc) → ∀ q q' o, Tr.get? q (use true e u acc) = some (.fld q' o) → isVar q' (use true e u acc)
  | [], acc, _, ha => ha
  | p :: u, acc, hae, ha => use_fld u _ (useP_sub hae) (useP_fld hae ha)
theorem use_only {e : Env} : ∀ (u : List P) (acc : Env) (q : P) (v : DV), Tr.get? q (use true e u acc) = some v → Tr.get? q acc = some v ∨ q ∈ u
  | [], acc, q, v, h => .inl h
  | p :: u, acc, q, v, h => by
    rcases use_only u _ q v h with h1 | h1
    · by_cases hq : q = p
      · exact .inr (by simp [hq])
      · left
        rw [← h1]
        unfold useP
        cases hp : Tr.get? p e with
        | none => rfl
        | some x =>
          cases x
          case fld q' o =>
            simp only []
            cases hq' : Tr.get? q' acc with
            | none => rfl
            | some y => cases y <;> first | rfl | exact (Tr.get_set_ne hq _ _).symm
          all_goals exact (Tr.get_set_ne hq _ _).symm
    · exact .inr (by simp [h1])
theorem use_var {e : Env} : ∀ (u : List P) (acc : Env) (q : P) (l : List DV), (∀ q v, Tr.get? q acc = some v → Tr.get? q e = some v) → Tr.get? q e = some (.var l) → (q ∈ u ∨ Tr.get? q acc = some (.var l)) → Tr.get? q (use true e u acc) = some (.var l)
  | [], acc, q, l, _, hq, h => by rcases h with h | h; · simp at h
                                  · exact h
  | p :: u, acc, q, l, hae, hq, h => by
    refine use_var u _ q l (useP_sub hae) hq ?_
    by_cases hqu : q ∈ u
    · exact .inl hqu
    · right
      by_cases hqp : q = p
      · subst hqp
        unfold useP; rw [hq]; exact Tr.get_set_self _ _ _
      · have h' : Tr.get? q acc = some (.var l) := by
          rcases h with h | h
          · simp [hqp, hqu] at h
          · exact h
        rw [← h']
        unfold useP
        cases hp : Tr.get? p e with
        | none => rfl
        | some x =>
          cases x
          case fld q' o =>
            simp only []
            cases hq' : Tr.get? q' acc with
            | none => rfl
            | some y => cases y <;> first | rfl | exact Tr.get_set_ne hqp _ _
          all_goals exact Tr.get_set_ne hqp _ _
end
end
section
variable {Pr : Program} {wm : Option P} {ds : List Dop} {os : List Oper} {e : Env} {nx : P} {h : Hp} {E : Nat → Env} {X : Nat → P} {H : Nat → Hp} {Ls : List Nat} {N hi : Nat} {j0 : J} {pv0 : P → Option Nat} {a0 : Act} {w0 : World}
structure Inv (ds : List Dop) (E : Nat → Env) (X : Nat → P) (H : Nat → Hp) (Ls : List Nat) (N hi : Nat) (j0 : J) (pv0 : P → Option Nat) (a0 : Act) (w0 : World) (S : Nat → Prop) (j : J) (pv : P → Option Nat) (a : Act) (w : World) : Prop where
  fresh : ∀ k i, j k = some i → k.n < (X 0).n ∨ (∃ m, m < ds.length ∧ S m ∧ (X m).n ≤ k.n ∧ k.n < (X (m + 1)).n) ∨ hi ≤ k.n
  heap : ∀ k i t, j k = some i → k.n < (X ds.length).n → t ≤ ds.length → VT ds S t → k.n < (X t).n → HR j (H t) w k i
  inj : ∀ k k' b s c s' c', j k = some (.at b s c) → j k' = some (.at b s' c') → k = k'
  inr : ∀ k k' b s c s', j k = some (.at b s c) → j k' = some (.ro b s') → False
  env : ∀ p t v, t ≤ ds.length → VE ds S p t → Tr.get? p (E t) = some v → ER j pv w a.tmps p v
  pvv : ∀ p b t, t ≤ ds.length → VE ds S p t → pv p = some b → isVar p (E t)
  loc : ∀ p l t, t ≤ ds.length → VE ds S p t → Tr.get? p (E t) = some (.var l) → vars Ls p
  pin : ∀ p q b, pv p = some b → pv q = some b → p = q
  pfr : ∀ p b, pv p = some b → ∀ k s c, j k ≠ some (.at b s c)
  pfo : ∀ p b, pv p = some b → ∀ k s, j k ≠ some (.ro b s)
  plt : ∀ p b, pv p = some b → b < w.heap.size
  size : a.tmps.size = N
  lt : ∀ k b s c, j k = some (.at b s c) → b < w.heap.size
  lr : ∀ k b s, j k = some (.ro b s) → b < w.heap.size
  fr : Fr hi (X 0).n j0 pv0 w0 j pv w
  defers : a.defers = a0.defers
theorem Inv.start (st : Sts Pr wm ds os e nx h E X H) (hl : ds.length = os.length) (R : Rel (vars Ls) N hi j0 pv0 e nx h a0 w0) (hnh : (X ds.length).n ≤ hi) : Inv ds E X H Ls N hi j0 pv0 a0 w0 (fun _ => False) j0 pv0 a0 w0 where
  fresh := fun k i hk => by
    rw [st.x0]
    rcases R.fresh k i hk with h | h
    · exact .inl h
    · exact .inr (.inr h)
  heap := fun k i t hk hkn ht hv hkt => by
    have hk0 : k.n < (X 0).n := by
      rw [st.x0]
      rcases R.fresh k i hk with h | h
      · exact h
      · omega
    have h0 : HR j0 (H 0) w0 k i := by rw [st.h0]; exact R.heap k i hk (by rw [← st.x0]; exact hk0)
    exact HR.of_heap (Ext.refl _) (st.heap_same hl (Nat.zero_le _) ht (fun q d _ _ => ⟨fun h => absurd h (Nat.not_lt_zero _), fun h => h.elim⟩) hv hk0 hkt) (Nat.le_refl _) (fun _ _ => rfl) h0
  inj := R.inj
  inr := R.inr
  env := fun p t v ht hv hp => by
    rw [st.env_same hl (Nat.zero_le _) ht (fun q d _ _ => ⟨fun h => absurd h (Nat.not_lt_zero _), fun h => h.elim⟩) hv, st.e0] at hp
    exact R.env p v hp
  pvv := fun p b t ht hv hp => by
    obtain ⟨l, hl'⟩ := R.pvv p b hp
    refine ⟨l, ?_⟩
    rw [st.env_same hl (Nat.zero_le _) ht (fun q d _ _ => ⟨fun h => absurd h (Nat.not_lt_zero _), fun h => h.elim⟩) hv, st.e0]
    exact hl'
  loc := fun p l t ht hv hp => by
    rw [st.env_same hl (Nat.zero_le _) ht (fun q d _ _ => ⟨fun h => absurd h (Nat.not_lt_zero _), fun h => h.elim⟩) hv, st.e0] at hp
    exact R.loc p l hp
  pin := R.pin
  pfr := R.pfr
  pfo := R.pfo
  plt := fun p b hp => by
    obtain ⟨l, hl'⟩ := R.pvv p b hp
    obtain ⟨b', hb', _, hlies, _⟩ := R.env p _ hl'
    rw [hp] at hb'; cases hb'; exact hlies.lt
  size := R.size
  lt := R.lt
  lr := R.lr
  fr := by rw [st.x0]; exact Fr.refl _ _ _ _ _
  defers := rfl
theorem Inv.finish (st : Sts Pr wm ds os e nx h E X H) (hl : ds.length = os.length) (ht : ∀ k : P, nx.n ≤ k.n → Tr.get? k h = none) {S : Nat → Prop} {j : J} {pv : P → Option Nat} {a : Act} {w : World} (I : Inv ds E X H Ls N hi j0 pv0 a0 w0 S j pv a w) (hS : ∀ q, q < ds.length → S q) :
    Rel (vars Ls) N hi j pv (E ds.length) (X ds.length) (H ds.length) a w ∧ Fr hi nx.n j0 pv0 w0 j pv w ∧ a.defers = a0.defers := by
  have hlt : ∀ (q : Nat) (d : Dop), ds[q]? = some d → q < ds.length := fun q d hd => (List.getElem?_eq_some_iff.1 hd).1
  have hve : ∀ p, VE ds S p ds.length := fun p q d hd _ => ⟨fun _ => hS q (hlt q d hd), fun _ => hlt q d hd⟩
  have hvt : VT ds S ds.length := fun q d hd _ => ⟨fun _ => hS q (hlt q d hd), fun _ => hlt q d hd⟩
  refine ⟨?_, by rw [← st.x0]; exact I.fr, I.defers⟩
  constructor
  · intro k i hk
    rcases I.fresh k i hk with h | ⟨m, hm, _, _, h⟩ | h
    · exact .inl (Nat.lt_of_lt_of_le h (st.le hl (Nat.zero_le _) (Nat.le_refl _)))
    · exact .inl (Nat.lt_of_lt_of_le h (st.le hl (by omega) (Nat.le_refl _)))
    · exact .inr h
  · intro k i hk hkn
    exact I.heap k i _ hk hkn (Nat.le_refl _) hvt hkn
  · exact I.inj
  · exact I.inr
  · intro p v hv; exact I.env p _ v (Nat.le_refl _) (hve p) hv
  · intro p b hp; exact I.pvv p b _ (Nat.le_refl _) (hve p) hp
  · exact I.pin
  · exact I.pfr
  · exact I.pfo
  · intro p l hp; exact I.loc p l _ (Nat.le_refl _) (hve p) hp
  · exact I.size
  · exact I.lt
  · exact I.lr
  · exact st.top hl ht ds.length (Nat.le_refl _)
def addS (S : Nat → Prop) (i : Nat) : Nat → Prop := fun q => S q ∨ q = i
theorem ER_not {j : J} {pv : P → Option Nat} {w : World} {tm : Array Value} {p : P} {v : DV} (hv : ∀ l, v ≠ .var l) : ER j pv w tm p v = XD j pv v (tm.getD p.n undef) := by
  cases v <;> first | rfl | exact absurd rfl (hv _)
theorem ER.pvmono {j : J} {pv pv' : P → Option Nat} {w : World} {tm : Array Value} {p : P} {v : DV} (hp : ∀ p b, pv p = some b → pv' p = some b) (H : ER j pv w tm p v) : ER j pv' w tm p v := by
  cases v
  case var l => obtain ⟨b, hb, r⟩ := H; exact ⟨b, hp _ _ hb, r⟩
  case fld q o => obtain ⟨b, hb, r⟩ := H; exact ⟨b, hp _ _ hb, r⟩
  all_goals exact H
theorem ER.tmps {j : J} {pv : P → Option Nat} {w : World} {tm tm' : Array Value} {p : P} {v : DV} (ht : tm'.getD p.n undef = tm.getD p.n undef) (H : ER j pv w tm p v) : ER j pv w tm' p v := by
  cases v
  case var l => obtain ⟨b, hb, h1, r⟩ := H; exact ⟨b, hb, by rw [ht]; exact h1, r⟩
  all_goals (rw [ER_not (by intro l h; cases h)] at H ⊢; rw [ht]; exact H)
theorem Inv.next (st : Sts Pr wm ds os e nx h E X H) (hl : ds.length = os.length) (hnh : (X ds.length).n ≤ hi) {S : Nat → Prop} {j : J} {pv : P → Option Nat} {a : Act} {w : World} (I : Inv ds E X H Ls N hi j0 pv0 a0 w0 S j pv a w)
    {i : Nat} {c : Bool} {u b : List P} {r : Bool} {op : Op} (hd : ds[i]? = some (.mk c u b r op)) (hn : ¬ S i)
    (side : ∀ (q : Nat) (x : Dop), ds[q]? = some x → clash x (.mk c u b r op) = true → (q < i ↔ S q))
    (hdb : ∀ p ∈ dstO op, p ∈ b) (hbu : ∀ p ∈ b, p ∈ u ∨ p ∈ dstO op)
    {r1 : Env} (hE : E (i + 1) = back r1 b (E i))
    {j' : J} {pv1 pv' : P → Option Nat} {a' : Act} {w' : World}
    (hjx : Ext j j') (hsize : w.heap.size ≤ w'.heap.size)
    (heap : ∀ k x t, j' k = some x → k.n < (X ds.length).n → t ≤ ds.length → VT ds (addS S i) t → k.n < (X t).n → HR j' (H t) w' k x)
    (fresh : ∀ k x, j' k = some x → j k = some x ∨ j k ≠ none ∨ ((X i).n ≤ k.n ∧ k.n < (X (i + 1)).n))
    (inj : ∀ k k' b s c s' c', j' k = some (.at b s c) → j' k' = some (.at b s' c') → k = k')
    (inr : ∀ k k' b s c s', j' k = some (.at b s c) → j' k' = some (.ro b s') → False)
    (lt : ∀ k b s c, j' k = some (.at b s c) → b < w'.heap.size)
    (lr : ∀ k b s, j' k = some (.ro b s) → b < w'.heap.size)
    (henv1 : ∀ p v, Tr.get? p r1 = some v → ER j' pv1 w' a'.tmps p v)
    (hpvv1 : ∀ p b, pv1 p = some b → isVar p r1)
    (hloc1 : ∀ p l, Tr.get? p r1 = some (.var l) → vars Ls p)
    (hpin1 : ∀ p q b, pv1 p = some b → pv1 q = some b → p = q)
    (hpfr : ∀ p b, pv' p = some b → ∀ k s c, j' k ≠ some (.at b s c))
    (hpfo : ∀ p b, pv' p = some b → ∀ k s, j' k ≠ some (.ro b s))
    (hp1 : ∀ p b, pv1 p = some b → pv' p = some b)
    (hp2 : ∀ p, p ∉ dstO op → pv' p = pv p)
    (hp3 : ∀ p ∈ dstO op, ∀ b, pv' p = some b → pv1 p = some b)
    (hp4 : ∀ p b, p ∈ u → p ∉ dstO op → pv p = some b → pv1 p = some b)
    (hp5 : ∀ p b, pv1 p = some b → pv p = some b ∨ w.heap.size ≤ b)
    (hp6 : ∀ p b, pv1 p = some b → b < w'.heap.size)
    (hp7 : ∀ p ∈ dstO op, pv p = none)
    (hr1 : ∀ p ∈ b, ∀ v, Tr.get? p (E i) = some v → Tr.get? p r1 = none → p ∉ dstO op ∧ ∀ l, v ≠ .var l)
    (htm : ∀ p, p ∉ dstO op → a'.tmps.getD p.n undef = a.tmps.getD p.n undef)
    (hblk : ∀ p x, pv p = some x → p ∉ b → w'.heap[x]? = w.heap[x]?)
    (size : a'.tmps.size = N) (hfr : Fr hi (X i).n j pv w j' pv' w') (hdf : a'.defers = a.defers) :
    Inv ds E X H Ls N hi j0 pv0 a0 w0 (addS S i) j' pv' a' w' := by
  have hil : i < ds.length := (List.getElem?_eq_some_iff.1 hd).1
  have hSi : ∀ q, q ≠ i → (addS S i q ↔ S q) := fun q hq => ⟨fun h => h.elim id (fun h => absurd h hq), .inl⟩
  have ve1 : ∀ p, p ∈ b → VE ds (addS S i) p (i + 1) := by
    intro p hp q x hx hpx
    by_cases hq : q = i
    · subst hq; exact ⟨fun _ => .inr rfl, fun _ => by omega⟩
    · have := side q x hx (by unfold clash; rw [Bool.or_eq_true]; exact .inr (anyP_of hpx hp))
      rw [hSi q hq, ← this]; omega
  have ve0 : ∀ p, p ∈ b → VE ds S p i := by
    intro p hp q x hx hpx
    exact side q x hx (by unfold clash; rw [Bool.or_eq_true]; exact .inr (anyP_of hpx hp))
  have veo : ∀ p t, p ∉ b → VE ds (addS S i) p t → VE ds S p t := by
    intro p t hp hv q x hx hpx
    have hq : q ≠ i := by rintro rfl; rw [hd] at hx; cases hx; exact hp hpx
    rw [← hSi q hq]; exact hv q x hx hpx
  have bval : ∀ p t, p ∈ b → t ≤ ds.length → VE ds (addS S i) p t → Tr.get? p (E t) = (match Tr.get? p r1 with | some v => some v | none => Tr.get? p (E i)) := by
    intro p t hp ht hv
    rw [st.env_same hl (by omega) ht (ve1 p hp) hv, hE]
    cases hr : Tr.get? p r1 with
    | none => exact back_none r1 p hr b _
    | some v => exact back_in r1 p hr b _ hp
  have keepER : ∀ p v, p ∉ dstO op → (∀ l, v = .var l → p ∉ b) → ER j pv w a.tmps p v → ER j' pv' w' a'.tmps p v := by
    intro p v hp hv H
    refine ER.tmps (htm p hp) ?_
    cases v
    case var l =>
      have hpb := hv l rfl
      obtain ⟨bb, hb, h1, h2, h3⟩ := H
      have hh := hblk p bb hb hpb
      exact ⟨bb, by rw [hp2 p hp]; exact hb, h1, h2.of_heap hsize hh, (h3.mono hjx).of_heap hh⟩
    case fld q o =>
      obtain ⟨bb, hb, h1⟩ := H
      by_cases hq : q ∈ dstO op
      · rw [hp7 q hq] at hb; cases hb
      · exact ⟨bb, by rw [hp2 q hq]; exact hb, h1⟩
    all_goals exact VR.mono hjx H
  constructor
  · intro k x hk
    rcases fresh k x hk with h1 | h1 | ⟨h1, h2⟩
    · rcases I.fresh k x h1 with h2 | ⟨m, hm, hS, h2⟩ | h2
      · exact .inl h2
      · exact .inr (.inl ⟨m, hm, .inl hS, h2⟩)
      · exact .inr (.inr h2)
    · cases hj : j k with
      | none => exact absurd hj h1
      | some y =>
        rcases I.fresh k y hj with h2 | ⟨m, hm, hS, h2⟩ | h2
        · exact .inl h2
        · exact .inr (.inl ⟨m, hm, .inl hS, h2⟩)
        · exact .inr (.inr h2)
    · exact .inr (.inl ⟨i, hil, .inr rfl, h1, h2⟩)
  · exact heap
  · exact inj
  · exact inr
  · intro p t v ht hv hp
    by_cases hpb : p ∈ b
    · rw [bval p t hpb ht hv] at hp
      cases hr : Tr.get? p r1 with
      | some y =>
        rw [hr] at hp
        simp only [Option.some.injEq] at hp; subst hp
        exact ER.pvmono hp1 (henv1 p _ hr)
      | none =>
        rw [hr] at hp
        simp only [] at hp
        obtain ⟨h1, h2⟩ := hr1 p hpb v hp hr
        exact keepER p v h1 (fun l hl' => absurd hl' (h2 l)) (I.env p i v (by omega) (ve0 p hpb) hp)
    · exact keepER p v (fun h' => hpb (hdb p h')) (fun _ _ => hpb) (I.env p t v ht (veo p t hpb hv) hp)
  · intro p x t ht hv hp
    by_cases hpb : p ∈ b
    · have h1 : pv1 p = some x := by
        by_cases hpd : p ∈ dstO op
        · exact hp3 p hpd x hp
        · rcases hbu p hpb with hu | hu
          · exact hp4 p x hu hpd (by rw [← hp2 p hpd]; exact hp)
          · exact absurd hu hpd
      obtain ⟨l, hl1⟩ := hpvv1 p x h1
      refine ⟨l, ?_⟩
      rw [bval p t hpb ht hv, hl1]
    · exact I.pvv p x t ht (veo p t hpb hv) (by rw [← hp2 p (fun h' => hpb (hdb p h'))]; exact hp)
  · intro p l t ht hv hp
    by_cases hpb : p ∈ b
    · rw [bval p t hpb ht hv] at hp
      cases hr : Tr.get? p r1 with
      | some y =>
        rw [hr] at hp
        simp only [Option.some.injEq] at hp; subst hp
        exact hloc1 p l hr
      | none =>
        rw [hr] at hp
        exact I.loc p l i (by omega) (ve0 p hpb) hp
    · exact I.loc p l t ht (veo p t hpb hv) hp
  · intro p q x hp hq
    by_cases hpd : p ∈ dstO op <;> by_cases hqd : q ∈ dstO op
    · exact hpin1 p q x (hp3 p hpd x hp) (hp3 q hqd x hq)
    · have h1 := hp3 p hpd x hp
      rw [hp2 q hqd] at hq
      rcases hp5 p x h1 with h2 | h2
      · rw [hp7 p hpd] at h2; cases h2
      · have := I.plt q x hq; omega
    · have h1 := hp3 q hqd x hq
      rw [hp2 p hpd] at hp
      rcases hp5 q x h1 with h2 | h2
      · rw [hp7 q hqd] at h2; cases h2
      · have := I.plt p x hp; omega
    · rw [hp2 p hpd] at hp; rw [hp2 q hqd] at hq; exact I.pin p q x hp hq
  · exact hpfr
  · exact hpfo
  · intro p x hp
    by_cases hpd : p ∈ dstO op
    · exact hp6 p x (hp3 p hpd x hp)
    · rw [hp2 p hpd] at hp; exact Nat.lt_of_lt_of_le (I.plt p x hp) hsize
  · exact size
  · exact lt
  · exact lr
  · exact I.fr.trans hfr (st.le hl (Nat.zero_le _) (by omega))
  · rw [hdf]; exact I.defers
end
section
variable {Pr : Program} {wm : Option P} {ds : List Dop} {os : List Oper} {e : Env} {nx : P} {h : Hp} {E : Nat → Env} {X : Nat → P} {H : Nat → Hp} {Ls : List Nat} {N hi : Nat} {j0 : J} {pv0 : P → Option Nat} {a0 : Act} {w0 : World}
  {S : Nat → Prop} {j : J} {pv : P → Option Nat} {a : Act} {w : World} {i : Nat} {u b : List P} {r : Bool} {op : Op} {o : Oper}
structure Now (Pr : Program) (wm : Option P) (ds : List Dop) (os : List Oper) (e : Env) (nx : P) (h : Hp) (E : Nat → Env) (X : Nat → P) (H : Nat → Hp) (Ls : List Nat) (N hi : Nat) (S : Nat → Prop) (i : Nat) (u b : List P) (r : Bool) (op : Op) (o : Oper) : Prop where
  st : Sts Pr wm ds os e nx h E X H
  hl : ds.length = os.length
  top : ∀ k : P, nx.n ≤ k.n → Tr.get? k h = none
  hnh : (X ds.length).n ≤ hi
  hd : ds[i]? = some (.mk true u b r op)
  ho : os[i]? = some o
  hn : ¬ S i
  side : ∀ (q : Nat) (x : Dop), ds[q]? = some x → clash x (.mk true u b r op) = true → (q < i ↔ S q)
  hdb : ∀ p ∈ dstO op, p ∈ b
  hbu : ∀ p ∈ b, p ∈ u ∨ p ∈ dstO op
  hvu : isVarO op = true → ∀ p ∈ dstO op, p ∈ u
  hlv : stillO op = false → isVarO op = false → ∀ p ∈ u, vars Ls p → p ∈ b
  hc : chkOp Pr Ls N os op o = true
theorem Now.lt (A : Now Pr wm ds os e nx h E X H Ls N hi S i u b r op o) : i < ds.length := (List.getElem?_eq_some_iff.1 A.hd).1
theorem Now.hiX (A : Now Pr wm ds os e nx h E X H Ls N hi S i u b r op o) : (X (i + 1)).n ≤ hi := Nat.le_trans (A.st.le A.hl A.lt (Nat.le_refl _)) A.hnh
theorem Now.hX (A : Now Pr wm ds os e nx h E X H Ls N hi S i u b r op o) : (X i).n ≤ (X (i + 1)).n := A.st.one_le A.hl A.lt
theorem Now.veu (A : Now Pr wm ds os e nx h E X H Ls N hi S i u b r op o) {p : P} (hp : p ∈ u) : VE ds S p i := fun q x hx hpx =>
  A.side q x hx (by unfold clash; simp only [Bool.or_eq_true]; exact .inl (.inl (.inr (anyP_of (l := backD x) (m := usesD (.mk true u b r op)) hpx hp))))
theorem Now.veb (A : Now Pr wm ds os e nx h E X H Ls N hi S i u b r op o) {p : P} (hp : p ∈ b) : VE ds S p i := fun q x hx hpx =>
  A.side q x hx (by unfold clash; simp only [Bool.or_eq_true]; exact .inr (anyP_of (l := backD x) (m := backD (.mk true u b r op)) hpx hp))
theorem Now.vt (A : Now Pr wm ds os e nx h E X H Ls N hi S i u b r op o) (hM : blindO op = false) : VT ds S i := fun q x hx hw =>
  A.side q x hx (by unfold clash; simp only [Bool.or_eq_true, Bool.and_eq_true]; exact .inl (.inl (.inl (.inl ⟨hw, by simp [isM, hM]⟩))))
theorem addS_ne {q : Nat} (hq : q ≠ i) : addS S i q ↔ S q := ⟨fun h => h.elim id (fun h => absurd h hq), .inl⟩
theorem Now.vt1 (A : Now Pr wm ds os e nx h E X H Ls N hi S i u b r op o) (hM : blindO op = false) : VT ds (addS S i) (i + 1) := fun q x hx hw => by
  by_cases hq : q = i
  · subst hq; exact ⟨fun _ => .inr rfl, fun _ => by omega⟩
  · rw [addS_ne (S := S) hq, ← A.vt hM q x hx hw]; omega
theorem Now.vt_of (A : Now Pr wm ds os e nx h E X H Ls N hi S i u b r op o) (hW : isW (.mk true u b r op) = false) {t : Nat} (hv : VT ds (addS S i) t) : VT ds S t := fun q x hx hw => by
  have hq : q ≠ i := by rintro rfl; rw [A.hd] at hx; cases hx; rw [hW] at hw; cases hw
  rw [← addS_ne (S := S) hq]; exact hv q x hx hw
theorem blind_still {op : Op} (h : blindO op = true) : stillO op = true := by
  cases op <;> simp only [blindO, stillO] at h ⊢
  · rename_i d g i
    rw [Bool.or_eq_true] at h
    rcases h with h | h
    · rw [h]; rfl
    · rw [vl_load h, Bool.or_true]
  · cases h
  · cases h
theorem blind_w (hM : blindO op = true) : isW (.mk true u b r op) = false := by simp [isW, blind_still hM]
theorem Now.others (A : Now Pr wm ds os e nx h E X H Ls N hi S i u b r op o) (I : Inv ds E X H Ls N hi j0 pv0 a0 w0 S j pv a w) {k : P} {x : Img} (hk : j k = some x) (hkn : k.n < (X ds.length).n) (hge : (X (i + 1)).n ≤ k.n) : isW (.mk true u b r op) = false := by
  rcases I.fresh k x hk with h1 | ⟨m, hm, hS, h1, h2⟩ | h1
  · have := A.st.le A.hl (Nat.zero_le (i + 1)) A.lt; omega
  · have hmi : m ≠ i := by rintro rfl; exact A.hn hS
    have hlt : i < m := by
      rcases Nat.lt_or_ge i m with h | h
      · exact h
      · have := A.st.le A.hl (show m + 1 ≤ i + 1 by omega) A.lt; omega
    cases hw : isW (.mk true u b r op) with
    | false => rfl
    | true =>
      exfalso
      have hdm : ds[m]? = some ds[m] := List.getElem?_eq_getElem hm
      have hom : os[m]? = some (os[m]'(by rw [← A.hl]; exact hm)) := List.getElem?_eq_getElem _
      have D := A.st.step m _ _ hdm hom
      have hMm : isM ds[m] = true := by
        cases hdd : ds[m] with
        | mk c' u' b' r' op' =>
          rw [hdd] at D
          obtain ⟨r1, D, _⟩ := D
          generalize hx : X (m + 1) = xx at D h2
          generalize hh : H (m + 1) = hp at D
          cases D with
          | run G S' M hs =>
            simp only [Bool.or_eq_false_iff] at hs
            simp [isM, blindO, hs.1, load_vl hs.2]
          | _ => omega
      have := (A.side m _ hdm (by unfold clash; simp only [Bool.or_eq_true, Bool.and_eq_true]; exact .inl (.inl (.inl (.inr ⟨hMm, hw⟩))))).2 hS
      omega
  · have := A.hnh; omega
theorem Now.env (A : Now Pr wm ds os e nx h E X H Ls N hi S i u b r op o) (I : Inv ds E X H Ls N hi j0 pv0 a0 w0 S j pv a w) (p : P) (v : DV) (hv : Tr.get? p (use true (E i) u .nl) = some v) : ER j (pvOf pv (use true (E i) u .nl)) w a.tmps p v := by
  have hnl : ∀ (q : P) (v : DV), Tr.get? q (.nl : Env) = some v → Tr.get? q (E i) = some v := fun q v h => by rw [Tr.get_e] at h; cases h
  have hnf : ∀ (q q' : P) (o : Nat), Tr.get? q (.nl : Env) = some (.fld q' o) → isVar q' (.nl : Env) := fun q q' o h => by rw [Tr.get_e] at h; cases h
  have hpu : p ∈ u := by
    rcases use_only u .nl p v hv with h | h
    · rw [Tr.get_e] at h; cases h
    · exact h
  have hr := I.env p i v (Nat.le_of_lt A.lt) (A.veu hpu) (use_sub u .nl hnl p v hv)
  cases v
  case fld q o =>
    obtain ⟨bb, hb, ht⟩ := hr
    exact ⟨bb, by rw [pvOf_var (use_fld u .nl hnl hnf p q o hv)]; exact hb, ht⟩
  case var l =>
    obtain ⟨bb, hb, ht⟩ := hr
    exact ⟨bb, by rw [pvOf_var ⟨l, hv⟩]; exact hb, ht⟩
  all_goals exact hr
theorem Now.rel (A : Now Pr wm ds os e nx h E X H Ls N hi S i u b r op o) (I : Inv ds E X H Ls N hi j0 pv0 a0 w0 S j pv a w) (hM : blindO op = false) :
    Rel (vars Ls) N (X (i + 1)).n j (pvOf pv (use true (E i) u .nl)) (use true (E i) u .nl) (X i) (H i) a w where
  fresh := fun k x hk => by
    rcases I.fresh k x hk with h1 | ⟨m, hm, hS, h1, h2⟩ | h1
    · exact .inl (Nat.lt_of_lt_of_le h1 (A.st.le A.hl (Nat.zero_le _) (Nat.le_of_lt A.lt)))
    · have hmi : m ≠ i := by rintro rfl; exact A.hn hS
      rcases Nat.lt_or_ge m i with h | h
      · exact .inl (Nat.lt_of_lt_of_le h2 (A.st.le A.hl h (Nat.le_of_lt A.lt)))
      · exact .inr (Nat.le_trans (A.st.le A.hl (show i + 1 ≤ m by omega) (by omega)) h1)
    · exact .inr (Nat.le_trans A.hiX h1)
  heap := fun k x hk hlt => I.heap k x i hk (Nat.lt_of_lt_of_le hlt (A.st.le A.hl (Nat.le_of_lt A.lt) (Nat.le_refl _))) (Nat.le_of_lt A.lt) (A.vt hM) hlt
  inj := I.inj
  inr := I.inr
  env := A.env I
  pvv := fun p bb hp => (pvOf_some hp).1
  pin := fun p q bb hp hq => I.pin p q bb (pvOf_some hp).2 (pvOf_some hq).2
  pfr := fun p bb hp => I.pfr p bb (pvOf_some hp).2
  pfo := fun p bb hp => I.pfo p bb (pvOf_some hp).2
  loc := fun p l hl => by
    have hpu : p ∈ u := by
      rcases use_only u .nl p _ hl with h | h
      · rw [Tr.get_e] at h; cases h
      · exact h
    exact I.loc p l i (Nat.le_of_lt A.lt) (A.veu hpu) (use_sub u .nl (fun q v h => by rw [Tr.get_e] at h; cases h) p _ hl)
  size := I.size
  lt := I.lt
  lr := I.lr
  top := A.st.top A.hl A.top i (Nat.le_of_lt A.lt)
theorem Now.relnl (A : Now Pr wm ds os e nx h E X H Ls N hi S i u b r op o) (I : Inv ds E X H Ls N hi j0 pv0 a0 w0 S j pv a w) :
    Rel (vars Ls) N 0 j (pvOf pv (use true (E i) u .nl)) (use true (E i) u .nl) .z .nl a w where
  fresh := fun k x hk => .inr (Nat.zero_le _)
  heap := fun k x hk hlt => absurd hlt (Nat.not_lt_zero _)
  inj := I.inj
  inr := I.inr
  env := A.env I
  pvv := fun p bb hp => (pvOf_some hp).1
  pin := fun p q bb hp hq => I.pin p q bb (pvOf_some hp).2 (pvOf_some hq).2
  pfr := fun p bb hp => I.pfr p bb (pvOf_some hp).2
  pfo := fun p bb hp => I.pfo p bb (pvOf_some hp).2
  loc := fun p l hl => by
    have hpu : p ∈ u := by
      rcases use_only u .nl p _ hl with h | h
      · rw [Tr.get_e] at h; cases h
      · exact h
    exact I.loc p l i (Nat.le_of_lt A.lt) (A.veu hpu) (use_sub u .nl (fun q v h => by rw [Tr.get_e] at h; cases h) p _ hl)
  size := I.size
  lt := I.lt
  lr := I.lr
  top := fun k _ => Tr.get_e k
theorem getD_put {d : Option Nat} {v : Value} {x : Nat} (hx : d ≠ some x) : (a.put d v).tmps.getD x undef = a.tmps.getD x undef := by
  cases d with
  | none => rfl
  | some d => rw [put_getD, if_neg (fun h => hx (by rw [h.1]))]
theorem Now.free (A : Now Pr wm ds os e nx h E X H Ls N hi S i u b r op o) (I : Inv ds E X H Ls N hi j0 pv0 a0 w0 S j pv a w) {dst : Option P} {g : Option (P × Bool)} {ins : Ins} (hop : op = .mk dst g ins) {p : P} (hp : p ∈ dstO op) : pv p = none := by
  cases hpv : pv p with
  | none => rfl
  | some x =>
    obtain ⟨l, hl⟩ := I.pvv p x i (Nat.le_of_lt A.lt) (A.veb (A.hdb p hp)) hpv
    have hL := I.loc p l i (Nat.le_of_lt A.lt) (A.veb (A.hdb p hp)) hl
    subst hop
    cases dst with
    | none => simp [dstO] at hp
    | some d =>
      simp only [dstO, List.mem_singleton] at hp
      subst hp
      have hc := A.hc
      simp only [chkOp, Bool.and_eq_true] at hc
      exact absurd hL (okDst_some hc.1.1).2.1
theorem dstE_get {dst : Option P} {v : DV} {q : P} {e : Env} (hq : ∀ d, dst = some d → q ≠ d) : Tr.get? q (dstE dst v e) = Tr.get? q e := by
  cases dst with
  | none => rfl
  | some d => exact Tr.get_set_ne (hq d rfl) _ _
theorem Now.quiet (A : Now Pr wm ds os e nx h E X H Ls N hi S i u b r op o) (I : Inv ds E X H Ls N hi j0 pv0 a0 w0 S j pv a w) {dst : Option P} {g : Option (P × Bool)} {ins : Ins} (hop : op = .mk dst g ins) {v : DV} {v' : Value}
    (hE : E (i + 1) = back (dstE dst v (use true (E i) u .nl)) b (E i)) (hX : X (i + 1) = X i) (hH : H (i + 1) = H i) (hv : XD j (pvOf pv (use true (E i) u .nl)) v v') :
    Inv ds E X H Ls N hi j0 pv0 a0 w0 (addS S i) j pv (a.put o.dst v') w := by
  have hc := A.hc
  subst hop
  simp only [chkOp, Bool.and_eq_true] at hc
  have hdst := hc.1.1
  have hpl : ∀ p bb, pvOf pv (use true (E i) u .nl) p = some bb → pv p = some bb := fun p bb hp => (pvOf_some hp).2
  have hnd : ∀ p, p ∉ dstO (.mk dst g ins) → ∀ d, dst = some d → p ≠ d := by
    rintro p hp d rfl rfl; exact hp (by simp [dstO])
  have hodst : ∀ p : P, p ∉ dstO (.mk dst g ins) → o.dst ≠ some p.n := by
    intro p hp ho
    cases dst with
    | none => rw [okDst_none hdst] at ho; cases ho
    | some d => rw [(okDst_some hdst).1] at ho; simp only [Option.some.injEq] at ho; exact hnd p hp d rfl (P.n_inj ho.symm)
  refine I.next A.st A.hl A.hnh A.hd A.hn A.side A.hdb A.hbu hE (pv1 := pvOf pv (use true (E i) u .nl)) (Ext.refl j) (Nat.le_refl _) ?heap (fun k x h => .inl h) I.inj I.inr I.lt I.lr ?env1 ?pvv1 ?loc1 (fun p q x hp hq => I.pin p q x (hpl _ _ hp) (hpl _ _ hq))
    I.pfr I.pfo hpl (fun _ _ => rfl) ?hp3 ?hp4 (fun p x hp => .inl (hpl _ _ hp)) (fun p x hp => I.plt p x (hpl _ _ hp)) (fun p hp => A.free I rfl hp) ?hr1 (fun p hp => getD_put (hodst p hp)) (fun _ _ _ _ => rfl) ?size (Fr.refl _ _ _ _ _) (put_defers _ _ _)
  case heap =>
    intro k x t hk hkn ht hvt hkt
    cases hW : isW (.mk true u b r (.mk dst g ins)) with
    | false => exact I.heap k x t hk hkn ht (A.vt_of hW hvt) hkt
    | true =>
      have hM : blindO (.mk dst g ins) = false := by
        cases hb : blindO (.mk dst g ins) with
        | false => rfl
        | true => rw [blind_w hb] at hW; cases hW
      have hlt : k.n < (X (i + 1)).n := by
        rcases Nat.lt_or_ge k.n (X (i + 1)).n with h | h
        · exact h
        · rw [A.others I hk hkn h] at hW; cases hW
      have h1 := I.heap k x i hk hkn (Nat.le_of_lt A.lt) (A.vt hM) (by rw [← hX]; exact hlt)
      refine HR.of_heap (Ext.refl j) ?_ (Nat.le_refl _) (fun _ _ => rfl) h1
      rw [A.st.heap_same A.hl A.lt ht (A.vt1 hM) hvt hlt hkt, hH]
  case env1 =>
    intro p y hy
    by_cases hp : p ∈ dstO (.mk dst g ins)
    · cases dst with
      | none => simp [dstO] at hp
      | some d =>
        simp only [dstO, List.mem_singleton] at hp
        subst hp
        obtain ⟨h1, h2, h3⟩ := okDst_some hdst
        change Tr.get? p (Tr.set p _ (some v)) = some y at hy
        rw [Tr.get_set_self] at hy; cases hy
        exact XD.tmps hv (by rw [h1, put_getD, if_pos ⟨rfl, by rw [I.size]; exact h3⟩])
    · rw [dstE_get (hnd p hp)] at hy
      exact ER.tmps (getD_put (hodst p hp)) (A.env I p y hy)
  case pvv1 =>
    intro p x hp
    obtain ⟨⟨l, hl⟩, hp'⟩ := pvOf_some hp
    refine ⟨l, ?_⟩
    have hpd : p ∉ dstO (.mk dst g ins) := fun h => by rw [A.free I rfl h] at hp'; cases hp'
    rw [dstE_get (hnd p hpd)]; exact hl
  case loc1 =>
    intro p l hl
    by_cases hp : p ∈ dstO (.mk dst g ins)
    · cases dst with
      | none => simp [dstO] at hp
      | some d =>
        simp only [dstO, List.mem_singleton] at hp
        subst hp
        change Tr.get? p (Tr.set p _ (some v)) = _ at hl
        rw [Tr.get_set_self] at hl; cases hl
        exact hv.elim
    · rw [dstE_get (hnd p hp)] at hl
      have hpu : p ∈ u := by
        rcases use_only u .nl p _ hl with h | h
        · rw [Tr.get_e] at h; cases h
        · exact h
      exact I.loc p l i (Nat.le_of_lt A.lt) (A.veu hpu) (use_sub u .nl (fun q v h => by rw [Tr.get_e] at h; cases h) p _ hl)
  case hp3 =>
    intro p hp x hx
    rw [A.free I rfl hp] at hx; cases hx
  case hp4 =>
    intro p x hpu hpd hx
    obtain ⟨l, hl⟩ := I.pvv p x i (Nat.le_of_lt A.lt) (A.veu hpu) hx
    rw [pvOf_var ⟨l, use_var u .nl p l (fun q v h => by rw [Tr.get_e] at h; cases h) hl (.inl hpu)⟩]
    exact hx
  case hr1 =>
    intro p hpb y hy hn
    have hpd : p ∉ dstO (.mk dst g ins) := by
      intro hp
      cases dst with
      | none => simp [dstO] at hp
      | some d =>
        simp only [dstO, List.mem_singleton] at hp
        subst hp
        change Tr.get? p (Tr.set p _ (some v)) = none at hn
        rw [Tr.get_set_self] at hn; cases hn
    refine ⟨hpd, ?_⟩
    rintro l rfl
    rcases A.hbu p hpb with hu | hu
    · rw [dstE_get (hnd p hpd), use_var u .nl p l (fun q v h => by rw [Tr.get_e] at h; cases h) hy (.inl hu)] at hn; cases hn
    · exact hpd hu
  case size => cases hdd : o.dst with
    | none => exact I.size
    | some d => show (a.tmps.setIfInBounds _ _).size = N; rw [Array.size_setIfInBounds]; exact I.size
end
section
variable {Pr : Program} {wm : Option P} {ds : List Dop} {os : List Oper} {e : Env} {nx : P} {h : Hp} {E : Nat → Env} {X : Nat → P} {H : Nat → Hp} {Ls : List Nat} {N hi : Nat} {j0 : J} {pv0 : P → Option Nat} {a0 : Act} {w0 : World}
  {S : Nat → Prop} {j : J} {pv : P → Option Nat} {a : Act} {w : World} {i : Nat} {u b : List P} {r : Bool} {op : Op} {o : Oper}
theorem nlSub {e : Env} : ∀ (q : P) (v : DV), Tr.get? q (.nl : Env) = some v → Tr.get? q e = some v := fun q v h => by rw [Tr.get_e] at h; cases h
theorem Now.run (A : Now Pr wm ds os e nx h E X H Ls N hi S i u b r op o) (I : Inv ds E X H Ls N hi j0 pv0 a0 w0 S j pv a w) {dst : Option P} {g : Option (P × Bool)} {ins : Ins} (hop : op = .mk dst g ins) (hM : blindO op = false) (hstill : stillO op = false) {e1 : Env} {v : DV} {v' : Value} {wm' : Option P}
    (hE : E (i + 1) = back (dstE dst v e1) b (E i)) (M : Moves wm' (use true (E i) u .nl) (X i) (H i) e1 (X (i + 1)) (H (i + 1))) {j' : J} {w' : World}
    (R' : Rel (vars Ls) N (X (i + 1)).n j' (pvOf pv (use true (E i) u .nl)) e1 (X (i + 1)) (H (i + 1)) a w') (F' : Fr (X (i + 1)).n (X i).n j (pvOf pv (use true (E i) u .nl)) w j' (pvOf pv (use true (E i) u .nl)) w')
    (hv : XD j' (pvOf pv (use true (E i) u .nl)) v v') : Inv ds E X H Ls N hi j0 pv0 a0 w0 (addS S i) j' pv (a.put o.dst v') w' := by
  have hc := A.hc
  subst hop
  simp only [chkOp, Bool.and_eq_true] at hc
  have hdst := hc.1.1
  have R2 := R'.dst hdst hv
  have hpl : ∀ p bb, pvOf pv (use true (E i) u .nl) p = some bb → pv p = some bb := fun p bb hp => (pvOf_some hp).2
  have hnd : ∀ p, p ∉ dstO (.mk dst g ins) → ∀ d, dst = some d → p ≠ d := by
    rintro p hp d rfl rfl; exact hp (by simp [dstO])
  have hodst : ∀ p : P, p ∉ dstO (.mk dst g ins) → o.dst ≠ some p.n := by
    intro p hp ho
    cases dst with
    | none => rw [okDst_none hdst] at ho; cases ho
    | some d => rw [(okDst_some hdst).1] at ho; simp only [Option.some.injEq] at ho; exact hnd p hp d rfl (P.n_inj ho.symm)
  have hpfr : ∀ p x, pv p = some x → ∀ k s c, j' k ≠ some (.at x s c) := by
    intro p x hp k s c hk
    rcases Nat.lt_or_ge k.n (X (i + 1)).n with hlt | hge
    · rcases F'.new k x s c hk hlt with ⟨k0, s0, c0, h0, _⟩ | h0
      · exact I.pfr p x hp _ _ _ h0
      · have := I.plt p x hp; omega
    · rw [F'.old k hge] at hk; exact I.pfr p x hp _ _ _ hk
  refine I.next A.st A.hl A.hnh A.hd A.hn A.side A.hdb A.hbu hE (pv1 := pvOf pv (use true (E i) u .nl)) F'.ext F'.size ?heap ?fresh R2.inj R2.inr R2.lt R2.lr R2.env R2.pvv R2.loc R2.pin
    hpfr (fun p x hp k s hk => I.pfo p x hp k s (F'.ro _ _ _ hk)) hpl (fun _ _ => rfl) ?hp3 ?hp4 (fun p x hp => .inl (hpl _ _ hp)) (fun p x hp => Nat.lt_of_lt_of_le (I.plt p x (hpl _ _ hp)) F'.size) (fun p hp => A.free I rfl hp) ?hr1 (fun p hp => getD_put (hodst p hp)) ?hblk R2.size ?hfr (put_defers _ _ _)
  case heap =>
    intro k x t hk hkn ht hvt hkt
    rcases Nat.lt_or_ge k.n (X (i + 1)).n with hlt | hge
    · refine HR.of_heap (Ext.refl j') ?_ (Nat.le_refl _) (fun _ _ => rfl) (R'.heap k x hk hlt)
      exact A.st.heap_same A.hl A.lt ht (A.vt1 hM) hvt hlt hkt
    · have hk' := hk
      rw [F'.old k hge] at hk'
      have hW := A.others I hk' hkn hge
      refine HR.of_heap F'.ext rfl F'.size ?_ (I.heap k x t hk' hkn ht (A.vt_of hW hvt) hkt)
      intro bb hb
      rcases hb with ⟨s, c, rfl⟩ | ⟨s, rfl⟩
      · refine F'.same bb (I.lt _ _ _ _ hk') (fun k0 s0 c0 h0 => ?_) (fun p hp => I.pfr p bb (hpl p bb hp) _ _ _ hk')
        rw [I.inj _ _ _ _ _ _ _ h0 hk']; exact hge
      · exact F'.same bb (I.lr _ _ _ hk') (fun k0 s0 c0 h0 => (I.inr _ _ _ _ _ _ h0 hk').elim) (fun p hp => I.pfo p bb (hpl p bb hp) _ _ hk')
  case fresh =>
    intro k x hk
    cases hj : j k with
    | some y => exact .inr (.inl (by simp))
    | none =>
      refine .inr (.inr ⟨F'.more k hj (by rw [hk]; simp), ?_⟩)
      rcases Nat.lt_or_ge k.n (X (i + 1)).n with hlt | hge
      · exact hlt
      · rw [F'.old k hge, hj] at hk; cases hk
  case hp3 =>
    intro p hp x hx
    rw [A.free I rfl hp] at hx; cases hx
  case hp4 =>
    intro p x hpu hpd hx
    obtain ⟨l, hl⟩ := I.pvv p x i (Nat.le_of_lt A.lt) (A.veu hpu) hx
    rw [pvOf_var ⟨l, use_var u .nl p l nlSub hl (.inl hpu)⟩]
    exact hx
  case hr1 =>
    intro p hpb y hy hn
    have hpd : p ∉ dstO (.mk dst g ins) := by
      intro hp
      cases dst with
      | none => simp [dstO] at hp
      | some d =>
        simp only [dstO, List.mem_singleton] at hp
        subst hp
        change Tr.get? p (Tr.set p _ (some v)) = none at hn
        rw [Tr.get_set_self] at hn; cases hn
    refine ⟨hpd, ?_⟩
    rintro l rfl
    rcases A.hbu p hpb with hu | hu
    · rw [dstE_get (hnd p hpd)] at hn
      have h0 := use_var u .nl p l nlSub hy (.inl hu)
      rcases M.env p with h1 | ⟨l1, l2, _, h1, _⟩
      · rw [hn, h0] at h1; cases h1
      · rw [hn] at h1; cases h1
    · exact hpd hu
  case hblk =>
    intro p x hp hpb
    refine F'.same x (I.plt p x hp) (fun k s c hk => absurd hk (I.pfr p x hp k s c)) (fun q hq => ?_)
    obtain ⟨⟨l, hl⟩, hq'⟩ := pvOf_some hq
    have := I.pin q p x hq' hp
    subst this
    have hqu : q ∈ u := by
      rcases use_only u .nl q _ hl with h | h
      · rw [Tr.get_e] at h; cases h
      · exact h
    exact hpb (A.hlv hstill rfl q hqu (I.loc q l i (Nat.le_of_lt A.lt) (A.veu hqu) (use_sub u .nl nlSub q _ hl)))
  case hfr =>
    constructor
    · exact F'.size
    · exact F'.os
    · exact F'.output
    · intro x hx hj hp
      exact F'.same x hx (fun k s c hk => Nat.le_trans A.hiX (hj k s c hk)) (fun p hp' => hp p (hpl p x hp'))
    · exact F'.ext
    · intro k hk; exact F'.old k (Nat.le_trans A.hiX hk)
    · exact F'.more
    · intro k x s c hk hlt
      rcases Nat.lt_or_ge k.n (X (i + 1)).n with h1 | h1
      · rcases F'.new k x s c hk h1 with ⟨k0, s0, c0, h2, h3⟩ | h2
        · exact .inl ⟨k0, s0, c0, h2, Nat.lt_of_lt_of_le h3 A.hiX⟩
        · exact .inr h2
      · rw [F'.old k h1] at hk; exact .inl ⟨k, s, c, hk, hlt⟩
    · exact F'.ro
    · intro p x hp; exact .inl hp
    · exact F'.froz
theorem pvPut_self (pv : P → Option Nat) (d : P) (x : Nat) : pvPut pv d x d = some x := if_pos rfl
theorem pvPut_ne (pv : P → Option Nat) {d q : P} (x : Nat) (h : q ≠ d) : pvPut pv d x q = pv q := if_neg h
theorem Now.loc (A : Now Pr wm ds os e nx h E X H Ls N hi S i u b r op o) (I : Inv ds E X H Ls N hi j0 pv0 a0 w0 S j pv a w) {p : P} (hdo : dstO op = [p]) (hvo : isVarO op = true) (hst : stillO op = false) (hpv : ¬ isVar p (use true (E i) u .nl)) {l : List DV} {ob : Obj}
    (hE : E (i + 1) = back (Tr.set p (use true (E i) u .nl) (some (.var l))) b (E i)) (hX : X (i + 1) = X i) (hH : H (i + 1) = H i)
    (R' : Rel (vars Ls) N (X (i + 1)).n j (pvPut (pvOf pv (use true (E i) u .nl)) p w.heap.size) (Tr.set p (use true (E i) u .nl) (some (.var l))) (X i) (H i) (a.put (some p.n) (.pointer (some ⟨w.heap.size, 0, none⟩))) (w.alloc ob))
    (hob : ∃ cs t, ob = .cells cs t) : Inv ds E X H Ls N hi j0 pv0 a0 w0 (addS S i) j (pvPut pv p w.heap.size) (a.put (some p.n) (.pointer (some ⟨w.heap.size, 0, none⟩))) (w.alloc ob) := by
  have hmem : ∀ q, q ∈ dstO op ↔ q = p := fun q => by rw [hdo]; simp
  have hpu : p ∈ u := A.hvu hvo p ((hmem p).2 rfl)
  have hpn : pv p = none := by
    cases hp : pv p with
    | none => rfl
    | some x =>
      obtain ⟨l0, hl0⟩ := I.pvv p x i (Nat.le_of_lt A.lt) (A.veu hpu) hp
      exact absurd ⟨l0, use_var u .nl p l0 nlSub hl0 (.inl hpu)⟩ hpv
  have hpl : ∀ p bb, pvOf pv (use true (E i) u .nl) p = some bb → pv p = some bb := fun p bb hp => (pvOf_some hp).2
  have hsz : (w.alloc ob).heap.size = w.heap.size + 1 := by show (w.heap.push _).size = _; simp
  have hold : ∀ x, x < w.heap.size → (w.alloc ob).heap[x]? = w.heap[x]? := fun x hx => by show (w.heap.push _)[x]? = _; simp [Array.getElem?_push, Nat.ne_of_lt hx]
  have hW : isW (.mk true u b r op) = false := by simp [isW, hvo]
  refine I.next A.st A.hl A.hnh A.hd A.hn A.side A.hdb A.hbu hE (pv1 := pvPut (pvOf pv (use true (E i) u .nl)) p w.heap.size) (Ext.refl j) (by omega) ?heap (fun k x h => .inl h) I.inj I.inr (fun k x s c hk => by have := I.lt k x s c hk; omega) (fun k x s hk => by have := I.lr k x s hk; omega)
    R'.env R'.pvv R'.loc R'.pin ?hpfr ?hpfo ?hp1 (fun q hq => pvPut_ne _ _ (fun h => hq ((hmem q).2 h))) ?hp3 ?hp4 ?hp5 ?hp6 (fun q hq => by rw [(hmem q).1 hq]; exact hpn) ?hr1 ?htm (fun q x hq _ => hold x (I.plt q x hq)) R'.size ?hfr (put_defers _ _ _)
  case heap =>
    intro k x t hk hkn ht hvt hkt
    refine HR.of_heap (Ext.refl j) rfl (by omega) ?_ (I.heap k x t hk hkn ht (A.vt_of hW hvt) hkt)
    intro bb hb
    rcases hb with ⟨s, c, rfl⟩ | ⟨s, rfl⟩
    · exact hold bb (I.lt _ _ _ _ hk)
    · exact hold bb (I.lr _ _ _ hk)
  case hpfr =>
    intro q x hq k s c hk
    by_cases h1 : q = p
    · subst h1; rw [pvPut_self] at hq; cases hq; have := I.lt _ _ _ _ hk; omega
    · rw [pvPut_ne _ _ h1] at hq; exact I.pfr q x hq k s c hk
  case hpfo =>
    intro q x hq k s hk
    by_cases h1 : q = p
    · subst h1; rw [pvPut_self] at hq; cases hq; have := I.lr _ _ _ hk; omega
    · rw [pvPut_ne _ _ h1] at hq; exact I.pfo q x hq k s hk
  case hp1 =>
    intro q x hq
    by_cases h1 : q = p
    · subst h1; rw [pvPut_self] at hq ⊢; exact hq
    · rw [pvPut_ne _ _ h1] at hq ⊢; exact hpl q x hq
  case hp3 =>
    intro q hq x hx
    rw [(hmem q).1 hq, pvPut_self] at hx ⊢; exact hx
  case hp4 =>
    intro q x hqu hqd hx
    have h1 : q ≠ p := fun h => hqd ((hmem q).2 h)
    rw [pvPut_ne _ _ h1]
    obtain ⟨l0, hl0⟩ := I.pvv q x i (Nat.le_of_lt A.lt) (A.veu hqu) hx
    rw [pvOf_var ⟨l0, use_var u .nl q l0 nlSub hl0 (.inl hqu)⟩]
    exact hx
  case hp5 =>
    intro q x hq
    by_cases h1 : q = p
    · subst h1; rw [pvPut_self] at hq; cases hq; exact .inr (Nat.le_refl _)
    · rw [pvPut_ne _ _ h1] at hq; exact .inl (hpl q x hq)
  case hp6 =>
    intro q x hq
    by_cases h1 : q = p
    · subst h1; rw [pvPut_self] at hq; cases hq; omega
    · rw [pvPut_ne _ _ h1] at hq; have := I.plt q x (hpl q x hq); omega
  case hr1 =>
    intro q hqb y hy hn
    have h1 : q ≠ p := by rintro rfl; rw [Tr.get_set_self] at hn; cases hn
    refine ⟨fun h => h1 ((hmem q).1 h), ?_⟩
    rintro l0 rfl
    rw [Tr.get_set_ne h1] at hn
    rcases A.hbu q hqb with hu | hu
    · rw [use_var u .nl q l0 nlSub hy (.inl hu)] at hn; cases hn
    · exact h1 ((hmem q).1 hu)
  case htm =>
    intro q hq
    exact getD_put (fun h => hq ((hmem q).2 (P.n_inj (Option.some.inj h).symm)))
  case hfr =>
    constructor
    · omega
    · rfl
    · rfl
    · intro x hx _ _; exact hold x hx
    · exact Ext.refl j
    · intro _ _; rfl
    · intro k h1 h2; exact absurd h1 h2
    · intro k x s c hk hlt; exact .inl ⟨k, s, c, hk, hlt⟩
    · intro _ _ _ h; exact h
    · intro q x hx
      by_cases h1 : q = p
      · subst h1; rw [pvPut_self] at hx; cases hx; exact .inr (Nat.le_refl _)
      · rw [pvPut_ne _ _ h1] at hx; exact .inl hx
    · obtain ⟨cs, t, rfl⟩ := hob
      intro ad _; exact RowKit.frozen?_alloc_cells _ _ _ _
theorem Now.wp {ops : Array Oper} (hos : ops.toList = os) (A : Now Pr wm ds os e nx h E X H Ls N hi S i u b r op o) (I : Inv ds E X H Ls N hi j0 pv0 a0 w0 S j pv a w) {K : Act → World → Prop} {Q : Exit → Act → World → Prop}
    (hK : ∀ j' pv' a' w', Inv ds E X H Ls N hi j0 pv0 a0 w0 (addS S i) j' pv' a' w' → K a' w') : OperWp Pr ops o K Q a w := by
  have D := A.st.step i _ o A.hd A.ho
  obtain ⟨r1, D, hE⟩ := D
  have hc := A.hc
  subst hos
  unfold OperWp
  generalize hx : X (i + 1) = xx at D
  generalize hh : H (i + 1) = hp at D
  cases D with
  | run G S' M hs =>
    simp only [chkOp, Bool.and_eq_true] at hc
    rw [G.wanted (reads_of (A.env I)) hc.1.2 rfl, if_pos rfl]
    rename_i dst g ins e1 v1
    subst hx; subst hh
    have hM : blindO (.mk dst g ins) = false := by
      simp only [Bool.or_eq_false_iff] at hs
      cases hq : isVl ins with
      | false => simp [blindO, hs.1, hq]
      | true => have := vl_load hq; rw [hs.2] at this; cases this
    refine S' (vars Ls) N _ j _ a w (A.rel I hM) (Nat.le_refl _) K Q ?_
    intro j' w' v' R' F' hv
    exact hK _ _ _ _ (A.run I rfl hM hs hE M R' F' hv)
  | still G S' hs hp hq =>
    simp only [chkOp, Bool.and_eq_true] at hc
    rw [G.wanted (reads_of (A.env I)) hc.1.2 rfl, if_pos rfl]
    rename_i dst g ins v
    have fin : ∀ v', (execOp a.eval o).run Pr w = .ok (.value v') w → XD j (pvOf pv (use true (E i) u .nl)) v v' → o.wp Pr a w K Q := by
      intro v' hrun hv
      unfold Oper.wp
      rw [hrun, Oper.upon_value]
      exact hK _ _ _ _ (A.quiet I rfl hE hx hh hv)
    by_cases hpu : isPure ins = true
    · obtain ⟨h1, h2⟩ := hp hpu
      obtain ⟨v', hr, hv⟩ := pure_sim h1 h2 (reads_of (A.env I)) (eval_const a) w
      exact fin v' hr hv
    · by_cases hvl : isVl ins = true
      · obtain ⟨v', hr, hv⟩ := hq hvl (vars Ls) N 0 j _ a w (A.relnl I)
        exact fin v' hr hv
      · obtain ⟨v', hr, hv⟩ := S' (vars Ls) N _ j _ a w (A.rel I (by simp [blindO, hpu, hvl]))
        exact fin v' hr hv
  | pass G =>
    simp only [chkOp, Bool.and_eq_true] at hc
    rw [G.wanted (reads_of (A.env I)) hc.1.2 rfl, if_neg (by decide)]
    exact hK _ _ _ _ (A.quiet I rfl hE hx hh (VR.tup (l' := []) .nil))
  | loc hv =>
    simp only [chkOp, Bool.and_eq_true] at hc
    obtain ⟨h1, h2, h3, h4⟩ := okLoc_spec hc.1
    have hcm := hc.2
    cases hop : o.op <;> simp only [chkMem, hop, Bool.false_eq_true] at hcm
    rename_i t
    cases hit : Pr.info? t with
    | none => simp [hit] at hcm
    | some it =>
      cases hz : it.zero with
      | none => simp [hit, hz] at hcm
      | some zv =>
        simp only [hit, hz] at hcm
        rw [wanted_none h4, if_pos rfl]
        unfold Oper.wp
        rw [run_alloc_al hop hit hz, Oper.upon_value, h1]
        obtain ⟨R', _⟩ := (A.rel I rfl).var_new h2 h3 hv (okCs_sound j _ _ hcm) (t := t)
        exact hK _ _ _ _ (A.loc I rfl rfl rfl hv hE hx hh R' ⟨_, _, rfl⟩)
  | locb hv hcells =>
    simp only [chkOp, Bool.and_eq_true] at hc
    obtain ⟨h1, h2, h3, h4⟩ := okLoc_spec hc.1
    have hcm := hc.2
    cases hop : o.op <;> simp only [chkMem, hop, Bool.false_eq_true] at hcm
    rename_i t x
    rw [wanted_none h4, if_pos rfl]
    unfold Oper.wp
    rw [run_box_bx hop, Oper.upon_value, h1]
    obtain ⟨R', _⟩ := (A.rel I rfl).var_new h2 h3 hv (((reads_of (A.env I)).ov hcm).cells hcells) (t := t)
    exact hK _ _ _ _ (A.loc I rfl rfl rfl hv hE hx hh R' ⟨_, _, rfl⟩)
end
theorem cnt_set : ∀ (l : List Bool) (i : Nat), l[i]? = some false → (l.set i true).countP (! ·) + 1 = l.countP (! ·)
  | [], i, h => by simp at h
  | b :: l, 0, h => by simp at h; subst h; simp
  | b :: l, i + 1, h => by
    have := cnt_set l i (by simpa using h)
    simp only [List.set_cons_succ, List.countP_cons]
    omega
section
variable {Pr : Program} {wm : Option P} {ds : List Dop} {ops : Array Oper} {e : Env} {nx : P} {h : Hp} {E : Nat → Env} {X : Nat → P} {H : Nat → Hp} {Ls : List Nat} {N hi : Nat} {j0 : J} {pv0 : P → Option Nat} {a0 : Act} {w0 : World}
theorem ready_iff {listed : Array Bool} {i : Nat} : i ∈ Region.ready .any ops listed ↔ ∃ o, ops[i]? = some o ∧ listed.getD i true = false ∧ ∀ m ∈ edges o, listed.getD m false = true := by
  unfold Region.ready
  rw [List.mem_filter, List.mem_range]
  constructor
  · rintro ⟨h1, h2⟩
    rw [Array.getElem?_eq_getElem h1] at h2
    simp only [Option.map_some, Option.getD_some, Bool.and_eq_true, Bool.not_eq_true', Array.all_eq_true_iff_forall_mem, Bool.or_eq_true] at h2
    refine ⟨ops[i], Array.getElem?_eq_getElem h1, h2.1, ?_⟩
    intro m hm
    simp only [edges, List.mem_map, List.mem_filter, Array.mem_toList_iff] at hm
    obtain ⟨ed, ⟨h3, h4⟩, rfl⟩ := hm
    rcases h2.2 ed h3 with h5 | h5
    · rw [h4] at h5; cases h5
    · exact h5
  · rintro ⟨o, h1, h2, h3⟩
    have hlt : i < ops.size := (Array.getElem?_eq_some_iff.1 h1).1
    refine ⟨hlt, ?_⟩
    rw [h1]
    simp only [Option.map_some, Option.getD_some, Bool.and_eq_true, Bool.not_eq_true', Array.all_eq_true_iff_forall_mem, Bool.or_eq_true]
    refine ⟨h2, fun ed hed => ?_⟩
    cases hb : Region.binds .any ed with
    | false => exact .inl rfl
    | true => exact .inr (h3 _ (by simp only [edges, List.mem_map, List.mem_filter, Array.mem_toList_iff]; exact ⟨ed, ⟨hed, hb⟩, rfl⟩))
theorem any_sim (D : DrwOk Pr Ls N ds ops.toList) (st : Sts Pr wm ds ops.toList e nx h E X H) (top : ∀ k : P, nx.n ≤ k.n → Tr.get? k h = none) (hnh : (X ds.length).n ≤ hi) {Q : Exit → Act → World → Prop}
    (hQ : ∀ j' pv' a' w', Rel (vars Ls) N hi j' pv' (E ds.length) (X ds.length) (H ds.length) a' w' → Fr hi nx.n j0 pv0 w0 j' pv' w' → a'.defers = a0.defers → Q .normal a' w') :
    ∀ (fuel : Nat) (listed : Array Bool) (j : J) (pv : P → Option Nat) (a : Act) (w : World), listed.size = ops.size → listed.toList.countP (! ·) ≤ fuel → Down ops.toList (fun q => listed.getD q false = true) →
      Inv ds E X H Ls N hi j0 pv0 a0 w0 (fun q => listed.getD q false = true) j pv a w → wpAny Pr .any ops Q fuel listed a w := by
  have hl : ds.length = ops.toList.length := D.len
  have fin : ∀ (listed : Array Bool) (j : J) (pv : P → Option Nat) (a : Act) (w : World), listed.size = ops.size → Inv ds E X H Ls N hi j0 pv0 a0 w0 (fun q => listed.getD q false = true) j pv a w → Region.ready .any ops listed = [] → Q .normal a w := by
    intro listed j pv a w hsz I hr
    have hall : ∀ q, q < ops.size → listed.getD q false = true := by
      intro q
      induction q using Nat.strongRecOn with
      | _ q ih =>
        intro hq
        cases hb : listed.getD q false with
        | true => rfl
        | false =>
          exfalso
          have hmem : q ∈ Region.ready .any ops listed := by
            refine ready_iff.2 ⟨ops[q], Array.getElem?_eq_getElem hq, ?_, ?_⟩
            · rw [Array.getD_eq_getD_getElem?, Array.getElem?_eq_getElem (by omega)] at hb ⊢
              exact hb
            · intro m hm
              have hmq := D.edge q ops[q] (by rw [Array.getElem?_toList, Array.getElem?_eq_getElem hq]) m hm
              exact ih m hmq (by omega)
          rw [hr] at hmem; cases hmem
    obtain ⟨h1, h2, h3⟩ := I.finish st hl top (fun q hq => hall q (by rw [hl] at hq; simpa using hq))
    exact hQ j pv a w h1 h2 h3
  intro fuel
  induction fuel with
  | zero =>
    intro listed j pv a w hsz hcnt hdown I
    have hr : Region.ready .any ops listed = [] := by
      rw [List.eq_nil_iff_forall_not_mem]
      intro i hi
      obtain ⟨o, h1, h2, _⟩ := ready_iff.1 hi
      have hlt : i < ops.size := (Array.getElem?_eq_some_iff.1 h1).1
      rw [Array.getD_eq_getD_getElem?, Array.getElem?_eq_getElem (by omega)] at h2
      simp only [Option.getD_some] at h2
      have hpos : 0 < listed.toList.countP (! ·) := List.countP_pos_iff.2 ⟨listed[i], Array.getElem_mem_toList _, by simp [h2]⟩
      omega
    exact ⟨hr, fin listed j pv a w hsz I hr⟩
  | succ fuel ih =>
    intro listed j pv a w hsz hcnt hdown I
    refine ⟨fin listed j pv a w hsz I, ?_⟩
    intro i hir
    obtain ⟨o, h1, h2, h3⟩ := ready_iff.1 hir
    have hlt : i < ops.size := (Array.getElem?_eq_some_iff.1 h1).1
    have h2' : listed[i]? = some false := by
      rw [Array.getD_eq_getD_getElem?, Array.getElem?_eq_getElem (by omega)] at h2
      rw [Array.getElem?_eq_getElem (by omega)]; simpa using h2
    have hnS : ¬ listed.getD i false = true := by rw [Array.getD_eq_getD_getElem?, h2']; simp
    have ho : ops.toList[i]? = some o := by rw [Array.getElem?_toList]; exact h1
    have hil : i < ds.length := by rw [hl]; simpa using hlt
    have hd : ds[i]? = some ds[i] := List.getElem?_eq_getElem hil
    have hdop := D.dop i _ hd
    have hc := D.ops i _ o hd ho
    have side := fun (q : Nat) (x : Dop) (hx : ds[q]? = some x) (hcl : clash x ds[i] = true) => D.side hdown ho h3 hnS hx hd hcl
    cases hdi : ds[i] with
    | mk c u b r op =>
      rw [hdi] at hd hdop hc side
      simp only [okDop, Bool.and_eq_true] at hdop
      obtain ⟨⟨⟨⟨k1, k2⟩, k3⟩, k4⟩, k5⟩ := hdop
      subst k1
      have A : Now Pr wm ds ops.toList e nx h E X H Ls N hi (fun q => listed.getD q false = true) i u b r op o := {
        st := st, hl := hl, top := top, hnh := hnh, hd := hd, ho := ho, hn := hnS, side := side
        hdb := fun p hp => (memP_iff p b).1 (allIn_spec k3 p hp)
        hbu := fun p hp => by
          have := allIn_spec k4 p hp
          rw [Bool.or_eq_true, memP_iff, memP_iff] at this; exact this
        hvu := fun hv p hp => by
          rw [hv] at k2
          simp only [Bool.not_true, Bool.false_or] at k2
          exact (memP_iff p u).1 (allIn_spec k2 p hp)
        hlv := fun h1 h2 p hp hL => by
          rw [h1, h2] at k5
          simp only [Bool.false_or] at k5
          have := allIn_spec k5 p hp
          unfold vars at hL
          rw [hL] at this
          simp only [Bool.not_true, Bool.false_or] at this
          exact (memP_iff p b).1 this
        hc := hc }
      have hset : (fun q => (listed.setIfInBounds i true).getD q false = true) = addS (fun q => listed.getD q false = true) i := by
        funext q
        simp only [addS, eq_iff_iff, Array.getD_eq_getD_getElem?, Array.getElem?_setIfInBounds]
        by_cases hq : i = q
        · subst hq; simp [show i < listed.size by omega]
        · rw [if_neg hq]; exact ⟨.inl, fun h => h.elim id (fun h => absurd h.symm hq)⟩
      have W := A.wp rfl I (K := wpAny Pr .any ops Q fuel (listed.setIfInBounds i true)) (Q := Q) (by
        intro j' pv' a' w' I'
        refine ih _ j' pv' a' w' (by simpa using hsz) ?_ ?_ (by rw [hset]; exact I')
        · have := cnt_set listed.toList i (by rw [Array.getElem?_toList]; exact h2')
          rw [Array.toList_setIfInBounds]; omega
        · rw [hset]
          intro q oq hq hoq m hm
          rcases hq with hq | rfl
          · exact .inl (hdown q oq hq hoq m hm)
          · rw [ho] at hoq; cases hoq; exact .inl (h3 m hm))
      unfold OperWp at W
      unfold wpOp
      rw [h1]
      simp only []
      by_cases hw : Region.wanted o (yielded ops a.tmps) = true
      · rw [if_pos hw] at W ⊢; exact .inl W
      · rw [if_neg hw] at W ⊢; exact W
end
section
variable {Pr : Program} {F : Tr Fd}
theorem exec_sound (hF : FOk Pr F) (hm : Pr.follows .mixedOrders = true) : ∀ fuel, IhOk Pr (exec F fuel) := by
  intro fuel
  induction fuel with
  | zero => intro c wm e nx h out e' nx' h' H; cases H
  | succ fuel ihf =>
    have key : ∀ (c : C) (wm : Option P) (e : Env) (nx : P) (h : Hp) (out : Out) (e' : Env) (nx' : P) (h' : Hp), step c F (exec F fuel) wm e nx h = .ok out e' nx' h' →
        ∀ (Ls : List Nat) (N : Nat) (c' : Code), chkC Pr Ls N c c' = true → MovesC wm nx h nx' h' ∧ CodeOk Pr Ls N c' e nx h out e' nx' h' := by
      intro c
      induction c with
      | skip =>
        intro wm e nx h out e' nx' h' H Ls N c' hc
        change Res.ok .norm e nx h = _ at H
        cases H
        refine ⟨MovesC.refl _ _ _, ?_⟩
        intro hi j pv a w R _ Q hQ
        have hq := hQ j pv a w R (Fr.refl _ _ _ _ _) rfl
        cases c' <;> simp only [chkC, Bool.false_eq_true] at hc
        · exact wp_skip hq
        · exact wp_label hq
      | exit id =>
        intro wm e nx h out e' nx' h' H Ls N c' hc
        change Res.ok (.exit id) e nx h = _ at H
        cases H
        refine ⟨MovesC.refl _ _ _, ?_⟩
        intro hi j pv a w R _ Q hQ
        have hq := hQ j pv a w R (Fr.refl _ _ _ _ _) rfl
        cases c' <;> simp only [chkC, Bool.false_eq_true] at hc
        have := beqT hc
        subst this
        exact wp_exit hq
      | ret =>
        intro wm e nx h out e' nx' h' H Ls N c' hc
        change Res.ok .ret e nx h = _ at H
        cases H
        refine ⟨MovesC.refl _ _ _, ?_⟩
        intro hi j pv a w R _ Q hQ
        have hq := hQ j pv a w R (Fr.refl _ _ _ _ _) rfl
        cases c' <;> simp only [chkC, Bool.false_eq_true] at hc
        exact wp_ret hq
      | reg l =>
        intro wm e nx h out e' nx' h' H Ls N c' hc
        change opsK l F (exec F fuel) wm e nx h okN = _ at H
        obtain ⟨id, ops, draw, rfl⟩ : ∃ id ops draw, c' = .region id ops draw := by
          cases c' <;> first | exact ⟨_, _, _, rfl⟩ | (simp [chkC] at hc)
        obtain rfl : draw = false := by cases draw with
          | false => rfl
          | true => first | exact absurd hc (by simp [chkC]) | cases hc
        change chkOps Pr Ls N ops.toList l ops.toList = true at hc
        obtain ⟨e1, nx1, h1, H1, M, W⟩ := ops_sim (ops := ops) (Ls := Ls) (N := N) hF ihf l 0 e nx h okN H (by simpa using hc)
        change Res.ok .norm e1 nx1 h1 = _ at H1
        cases H1
        refine ⟨M, ?_⟩
        intro hi j pv a w R hnh Q hQ
        refine wp_region ?_
        have := W hi j pv a w R hnh Q hQ
        rw [List.range_eq_range']
        exact this
      | drw l =>
        intro wm e nx h out e' nx' h' H Ls N c' hc
        change dopsK l F (exec F fuel) wm e nx h okN = _ at H
        obtain ⟨id, ops, draw, rfl⟩ : ∃ id ops draw, c' = .region id ops draw := by
          cases c' <;> first | exact ⟨_, _, _, rfl⟩ | (simp [chkC] at hc)
        obtain rfl : draw = true := by cases draw with
          | true => rfl
          | false => first | exact absurd hc (by simp [chkC]) | cases hc
        change chkDrw Pr Ls N l ops.toList = true at hc
        have D := chkDrw_spec hc
        have hch : chkOps Pr Ls N ops.toList (l.map opD) ops.toList = true := by
          simp only [chkDrw, Bool.and_eq_true] at hc; exact hc.1.1.1
        obtain ⟨E, X, Hh, st, H1⟩ := dops_sim hF ihf l ops.toList e nx h okN H hch
        change Res.ok .norm (E l.length) (X l.length) (Hh l.length) = _ at H1
        have hl : l.length = ops.toList.length := D.len
        cases H1
        refine ⟨⟨?_, ?_, ?_⟩, ?_⟩
        · have := st.le hl (Nat.zero_le _) (Nat.le_refl _); rw [st.x0] at this; exact this
        · intro m hmw hmn
          exact (st.mono hl (fun m' hm' => by rw [hmw] at hm'; cases hm'; exact hmn) l.length (Nat.le_refl _)).old m hmw hmn
        · intro ht; exact st.top hl ht l.length (Nat.le_refl _)
        · intro hi j pv a w R hnh Q hQ
          refine wp_region_any hm ?_
          have R' := R.drew (w.drawn + 1)
          refine any_sim D st R.top hnh (j0 := j) (pv0 := pv) (a0 := a) (w0 := { w with drawn := w.drawn + 1 }) ?_ ops.size _ j pv a _ (by simp) ?_ ?_ ?_
          · intro j' pv' a' w' R2 F2 hd
            exact hQ j' pv' a' w' R2 ((Fr.drew hi nx.n j pv w (w.drawn + 1)).trans F2 (Nat.le_refl _)) hd
          · refine Nat.le_trans List.countP_le_length ?_
            simp
          · intro i o hi' _ _ _
            rw [Array.getD_eq_getD_getElem?, Array.getElem?_replicate] at hi'
            split at hi' <;> simp at hi'
          · have hS : (fun q => (Array.replicate ops.size false).getD q false = true) = (fun _ => False) := by
              funext q
              rw [Array.getD_eq_getD_getElem?, Array.getElem?_replicate]
              split <;> simp
            rw [hS]
            exact Inv.start st hl R' hnh
      | seq a b iha ihb =>
        intro wm e nx h out e' nx' h' H Ls N c' hc
        change Res.rec (motive := fun _ => Res) .fail (sqO (step b) F (exec F fuel) wm) (step a F (exec F fuel) wm e nx h) = _ at H
        cases c' <;> simp only [chkC, Bool.false_eq_true] at hc
        rename_i a' b'
        rw [Bool.and_eq_true] at hc
        cases hr : step a F (exec F fuel) wm e nx h with
        | fail => rw [hr] at H; cases H
        | ok o1 e1 nx1 h1 =>
          rw [hr] at H
          obtain ⟨M1, C1⟩ := iha wm e nx h o1 e1 nx1 h1 hr Ls N a' hc.1
          cases o1 with
          | norm =>
            change step b F (exec F fuel) wm e1 nx1 h1 = _ at H
            obtain ⟨M2, C2⟩ := ihb wm e1 nx1 h1 out e' nx' h' H Ls N b' hc.2
            refine ⟨M1.trans M2, ?_⟩
            intro hi j pv ac w R hnh Q hQ
            refine wp_seq (cwp_wp (C1 hi j pv ac w R (Nat.le_trans M2.le hnh) _ ?_))
            intro j1 pv1 a1 w1 R1 F1 hd1
            refine cwp_wp (C2 hi j1 pv1 a1 w1 R1 hnh Q ?_)
            intro j2 pv2 a2 w2 R2 F2 hd2
            exact hQ j2 pv2 a2 w2 R2 (F1.trans F2 M1.le) (hd2.trans hd1)
          | exit id =>
            change Res.ok (.exit id) e1 nx1 h1 = _ at H
            cases H
            refine ⟨M1, ?_⟩
            intro hi j pv ac w R hnh Q hQ
            exact wp_seq (cwp_wp (C1 hi j pv ac w R hnh _ hQ))
          | ret =>
            change Res.ok .ret e1 nx1 h1 = _ at H
            cases H
            refine ⟨M1, ?_⟩
            intro hi j pv ac w R hnh Q hQ
            exact wp_seq (cwp_wp (C1 hi j pv ac w R hnh _ hQ))
      | cond cd a b iha ihb =>
        intro wm e nx h out e' nx' h' H Ls N c' hc
        change asB (ev cd e) .fail (cdB (step a) (step b) F (exec F fuel) wm e nx h) = _ at H
        rw [asB_eq] at H
        cases c' <;> simp only [chkC, Bool.false_eq_true] at hc
        rename_i cd' a' b'
        simp only [Bool.and_eq_true] at hc
        cases hv : ev cd e <;> simp only [hv, reduceCtorEq] at H
        rename_i t
        have hval : ∀ (hi : Nat) (j : J) (pv : P → Option Nat) (ac : Act) (w : World), Rel (vars Ls) N hi j pv e nx h ac w → ac.eval cd' = .bool t := by
          intro hi j pv ac w R
          have := R.reads cd cd' hc.1.1
          rw [hv] at this; exact this.bool
        cases t with
        | true =>
          change step a F (exec F fuel) wm e nx h = _ at H
          obtain ⟨M, Cc⟩ := iha wm e nx h out e' nx' h' H Ls N a' hc.1.2
          exact ⟨M, fun hi j pv ac w R hnh Q hQ => wp_cond_true (hval hi j pv ac w R) (cwp_wp (Cc hi j pv ac w R hnh Q hQ))⟩
        | false =>
          change step b F (exec F fuel) wm e nx h = _ at H
          obtain ⟨M, Cc⟩ := ihb wm e nx h out e' nx' h' H Ls N b' hc.2
          exact ⟨M, fun hi j pv ac w R hnh Q hQ => wp_cond_false (hval hi j pv ac w R) (cwp_wp (Cc hi j pv ac w R hnh Q hQ))⟩
      | block id a iha =>
        intro wm e nx h out e' nx' h' H Ls N c' hc
        change Res.rec (motive := fun _ => Res) .fail (bkO id) (step a F (exec F fuel) wm e nx h) = _ at H
        cases c' <;> simp only [chkC, Bool.false_eq_true] at hc
        rename_i id' a'
        rw [Bool.and_eq_true] at hc
        have hid := beqT hc.1
        subst hid
        cases hr : step a F (exec F fuel) wm e nx h with
        | fail => rw [hr] at H; cases H
        | ok o1 e1 nx1 h1 =>
          rw [hr] at H
          obtain ⟨M1, C1⟩ := iha wm e nx h o1 e1 nx1 h1 hr Ls N a' hc.2
          have fin : ∀ o2, Res.ok o2 e1 nx1 h1 = .ok out e' nx' h' → (∀ (Q : Exit → Act → World → Prop) ac w, Q (exitOf o2) ac w → Exit.inBlock id Q (exitOf o1) ac w) → MovesC wm nx h nx' h' ∧ CodeOk Pr Ls N (.block id a') e nx h out e' nx' h' := by
            intro o2 H2 hx
            cases H2
            refine ⟨M1, ?_⟩
            intro hi j pv ac w R hnh Q hQ
            refine wp_block (cwp_wp (C1 hi j pv ac w R hnh _ ?_))
            intro j1 pv1 a1 w1 R1 F1 hd1
            exact hx Q a1 w1 (hQ j1 pv1 a1 w1 R1 F1 hd1)
          cases o1 with
          | norm => exact fin .norm H (fun Q ac w h => h)
          | ret => exact fin .ret H (fun Q ac w h => h)
          | exit i =>
            change Bool.rec (motive := fun _ => Res) (.ok (.exit i) e1 nx1 h1) (.ok .norm e1 nx1 h1) (Nat.beq i id) = _ at H
            cases hb : Nat.beq i id with
            | true =>
              rw [hb] at H
              have := beqT hb
              exact fin .norm H (fun Q ac w h => by show (if i = id then Q .normal ac w else Q (.exit i) ac w); rw [if_pos this]; exact h)
            | false =>
              rw [hb] at H
              have hne : i ≠ id := fun h => by rw [h, Nat.beq_refl] at hb; cases hb
              exact fin (.exit i) H (fun Q ac w h => by show (if i = id then Q .normal ac w else Q (.exit i) ac w); rw [if_neg hne]; exact h)
      | loop lv a iha =>
        intro wm e nx h out e' nx' h' H Ls N c' hc
        change keepK lv e .nl (fun e => Res.rec (motive := fun _ => Res) .fail (lpO (.loop lv a) F (exec F fuel) wm) (step a F (exec F fuel) wm e nx h)) = _ at H
        rw [keepK_eq] at H
        have hc0 := hc
        cases c' <;> simp only [chkC, Bool.false_eq_true] at hc
        rename_i a'
        cases hr : step a F (exec F fuel) wm (keep e lv .nl) nx h with
        | fail => simp only [hr] at H; cases H
        | ok o1 e1 nx1 h1 =>
          simp only [hr] at H
          obtain ⟨M1, C1⟩ := iha wm _ nx h o1 e1 nx1 h1 hr Ls N a' hc
          cases o1 with
          | norm =>
            change exec F fuel (.loop lv a) wm e1 nx1 h1 = _ at H
            obtain ⟨M2, C2⟩ := ihf _ _ _ _ _ _ _ _ _ H Ls N (.loop a') hc0
            refine ⟨M1.trans M2, ?_⟩
            intro hi j pv ac w R hnh Q hQ
            obtain ⟨pvk, Rk, Fk⟩ := R.keep lv
            refine LoopWp.round (cwp_wp (C1 hi j pvk ac w Rk (Nat.le_trans M2.le hnh) _ ?_))
            intro j1 pv1 a1 w1 R1 F1 hd1
            refine C2 hi j1 pv1 a1 w1 R1 hnh Q ?_
            intro j2 pv2 a2 w2 R2 F2 hd2
            exact hQ j2 pv2 a2 w2 R2 ((Fk.trans F1 (Nat.le_refl _)).trans F2 M1.le) (hd2.trans hd1)
          | exit id =>
            change Res.ok (.exit id) e1 nx1 h1 = _ at H
            cases H
            refine ⟨M1, ?_⟩
            intro hi j pv ac w R hnh Q hQ
            obtain ⟨pvk, Rk, Fk⟩ := R.keep lv
            exact LoopWp.round (cwp_wp (C1 hi j pvk ac w Rk hnh _ fun j1 pv1 a1 w1 R1 F1 hd1 => hQ j1 pv1 a1 w1 R1 (Fk.trans F1 (Nat.le_refl _)) hd1))
          | ret =>
            change Res.ok .ret e1 nx1 h1 = _ at H
            cases H
            refine ⟨M1, ?_⟩
            intro hi j pv ac w R hnh Q hQ
            obtain ⟨pvk, Rk, Fk⟩ := R.keep lv
            exact LoopWp.round (cwp_wp (C1 hi j pvk ac w Rk hnh _ fun j1 pv1 a1 w1 R1 F1 hd1 => hQ j1 pv1 a1 w1 R1 (Fk.trans F1 (Nat.le_refl _)) hd1))
    intro c wm e nx h out e' nx' h' H
    exact key c wm e nx h out e' nx' h' H
def Tr.All {α : Type} (Q : P → α → Prop) (t : Tr α) : Prop :=
  Tr.rec (motive := fun _ => (P → α → Prop) → Prop) (fun _ => True) (fun v _ _ il ir Q => Option.rec True (Q .z) v ∧ il (fun p => Q (.l p)) ∧ ir (fun p => Q (.r p))) t Q
theorem Tr.All.get {α : Type} : ∀ (t : Tr α) (Q : P → α → Prop), Tr.All Q t → ∀ p x, Tr.get? p t = some x → Q p x := by
  intro t
  induction t with
  | nl => intro Q _ p x h; rw [Tr.get_e] at h; cases h
  | nd v l r il ir =>
    intro Q h p x hx
    obtain ⟨h1, h2, h3⟩ := (h : Option.rec (motive := fun _ => Prop) True (Q .z) v ∧ Tr.All (fun p => Q (.l p)) l ∧ Tr.All (fun p => Q (.r p)) r)
    cases p with
    | z => rw [Tr.get_z] at hx; subst hx; exact h1
    | l p => rw [Tr.get_l] at hx; exact il _ h2 p x hx
    | r p => rw [Tr.get_r] at hx; exact ir _ h3 p x hx
theorem FOk.of {Pr : Program} {F : Tr Fd} (h : Tr.All (FdOk Pr) F) : FOk Pr F := fun f fd hf => Tr.All.get F _ h f fd hf
theorem fok {Pr : Program} {f : P} {fd : Fd} {n : Nat} {fn : Func} {Ls : List Nat} (hn : f.n = n) (hf : Pr.funcs[n]? = some fn) (hc : chkFd Pr Ls fn fd = true) : FdOk Pr f fd := by
  cases fd with
  | mk ps body rs => exact ⟨fn, Ls, by rw [hn]; exact hf, hc⟩
  | prim k => simp [chkFd] at hc
theorem Rel.start {hi : Nat} {a : Act} {w : World} : Rel (fun _ => False) a.tmps.size hi (fun _ => none) (fun _ => none) .nl .z .nl a w where
  fresh := fun k i h => nomatch h
  heap := fun k i h => nomatch h
  inj := fun k k' b s c s' c' h => nomatch h
  inr := fun k k' b s c s' h => nomatch h
  env := fun p v h => by rw [Tr.get_e] at h; cases h
  pvv := fun p b h => nomatch h
  pin := fun p q b h => nomatch h
  pfr := fun p b h => nomatch h
  pfo := fun p b h => nomatch h
  loc := fun p l h => by rw [Tr.get_e] at h; cases h
  size := rfl
  lt := fun k b s c h => nomatch h
  lr := fun k b s h => nomatch h
  top := fun k _ => Tr.get_e k
def GrownO (w w' : World) : Prop := w.keptBut w' (fun _ => False) ∧ (∀ a : Addr, a.block < w.heap.size → w'.frozen? a = w.frozen? a) ∧ w.heap.size ≤ w'.heap.size
theorem GrownO.frame {w w' : World} (h : GrownO w w') (may : MemPlace → Prop) : w.keptBut w' may := World.keptBut_mono (fun _ f => f.elim) h.1
end
end Go.Proofs.Ythdlkpmhjbaplaa.Dx
namespace Go.Proofs.Ythdlkpmhjbaplaa.Dx
open Go Go.ChangeShapes Go.WideShapes
structure Lay where
  nx : P
  h : Hp
  j : J
structure LayOk (w : World) (s : Lay) : Prop where
  ro : ∀ k i, s.j k = some i → k.n < s.nx.n ∧ ∃ b q l, i = .ro b q ∧ Tr.get? k s.h = some (.ro l) ∧ b < w.heap.size ∧ CellsAt s.j w b q l
  top : ∀ k : P, s.nx.n ≤ k.n → Tr.get? k s.h = none
structure LayLe (s s' : Lay) : Prop where
  nx : s.nx.n ≤ s'.nx.n
  j : ∀ k i, s.j k = some i → s'.j k = some i
  h : ∀ k : P, k.n < s.nx.n → Tr.get? k s'.h = Tr.get? k s.h
def Lay.Z (s : Lay) : P → Prop := fun k => k.n < s.nx.n
theorem LayLe.refl (s : Lay) : LayLe s s := ⟨Nat.le_refl _, fun _ _ h => h, fun _ _ => rfl⟩
theorem LayLe.trans {a b c : Lay} (x : LayLe a b) (y : LayLe b c) : LayLe a c := ⟨Nat.le_trans x.nx y.nx, fun k i h => y.j k i (x.j k i h), fun k h => (y.h k (Nat.lt_of_lt_of_le h x.nx)).trans (x.h k h)⟩
theorem LayLe.ext {a b : Lay} (x : LayLe a b) : Ext a.j b.j := fun k i h => .inl (x.j k i h)
theorem LayLe.xrs {a b : Lay} (x : LayLe a b) {l : List VV} {d : List DV} (r : XRs a.Z a.h none l d) : XRs b.Z b.h none l d :=
  XRs.mono (fun k h => Nat.lt_of_lt_of_le h x.nx) (fun k h => objAt_of (x.h k h)) (MLe.refl _) r
section
variable {H : Type} (enc : TypeId × Value → H) (P : Program) (w : World)
def RdOk (t : TypeId) (sz : Nat) {α : Type} (E : α → List VV) (ok : α → Prop) : Prop :=
  ∀ (fuel : Nat) (cs : List Value) (x : DataW H × List MemPlace), DataW.trod enc P w 0 (fun _ => true) true fuel t cs = some x →
    ∃ a : α, ok a ∧ ∀ s, LayOk w s → ∃ s' ds, LayOk w s' ∧ LayLe s s' ∧ VRs s'.j ds cs ∧ ds.length = sz ∧ XRs s'.Z s'.h none (E a) ds
variable {enc P w}
theorem RdOk.map {t : TypeId} {sz : Nat} {α β : Type} {E : α → List VV} {ok : α → Prop} {E' : β → List VV} {ok' : β → Prop} (R : RdOk enc P w t sz E ok) (f : α → β) (hE : ∀ a, E' (f a) = E a) (ho : ∀ a, ok a → ok' (f a)) : RdOk enc P w t sz E' ok' := by
  intro fuel cs x hx
  obtain ⟨a, h1, h2⟩ := R fuel cs x hx
  refine ⟨f a, ho a h1, ?_⟩
  rw [hE]; exact h2
theorem RdOk.int {t : TypeId} {k : IntKind} (ht : P.underlying t = some (.int k)) : RdOk enc P w t 1 (fun n : Int => [.int k n]) (fun n => (Lit.int k n).wf = true) := by
  intro fuel cs x hx
  obtain ⟨n, rfl, rfl, hw⟩ := DataW.trod_int ht hx
  exact ⟨n, hw, fun s hs => ⟨s, [.int k n], hs, LayLe.refl s, .cons (.int k n) rfl .nil, rfl, .cons (.int k n) .nil⟩⟩
theorem RdOk.bool {t : TypeId} (ht : P.underlying t = some .bool) : RdOk enc P w t 1 (fun b : Bool => [.bool b]) (fun _ => True) := by
  intro fuel cs x hx
  obtain ⟨b, rfl, rfl⟩ := DataW.trod_bool ht hx
  exact ⟨b, trivial, fun s hs => ⟨s, [.bool b], hs, LayLe.refl s, .cons (.bool b) rfl .nil, rfl, .cons (.bool b) .nil⟩⟩
theorem RdOk.pair {t : TypeId} {f0 f1 : Field} {s0 s1 : Nat} {α β : Type} {E0 : α → List VV} {E1 : β → List VV} {ok0 : α → Prop} {ok1 : β → Prop} (ht : P.underlying t = some (.struct #[f0, f1]))
    (R0 : RdOk enc P w f0.type s0 E0 ok0) (R1 : RdOk enc P w f1.type s1 E1 ok1) (h0 : f0.offset = 0) (h1 : f1.offset = s0) (c0 : P.cellsOf f0.type = s0) (c1 : P.cellsOf f1.type = s1) (ct : P.cellsOf t = s0 + s1) :
    RdOk enc P w t (s0 + s1) (fun x : α × β => E0 x.1 ++ E1 x.2) (fun x => ok0 x.1 ∧ ok1 x.2) := by
  intro fuel cs x hx
  obtain ⟨y0, y1, n, rfl, hl, hr0, hr1⟩ := trod_struct2 ht hx
  rw [h0, c0, List.drop_zero] at hr0
  rw [h1, c1] at hr1
  obtain ⟨a, ha, A⟩ := R0 _ _ _ hr0
  obtain ⟨b, hb, B⟩ := R1 _ _ _ hr1
  refine ⟨(a, b), ⟨ha, hb⟩, fun s hs => ?_⟩
  obtain ⟨sa, da, a1, a2, a3, a4, a5⟩ := A s hs
  obtain ⟨sb, db, b1, b2, b3, b4, b5⟩ := B sa a1
  refine ⟨sb, da ++ db, b1, a2.trans b2, ?_, by simp [a4, b4], (b2.xrs a5).append b5⟩
  have e : cs = cs.take s0 ++ (cs.drop s0).take s1 := by
    have : (cs.drop s0).take s1 = cs.drop s0 := List.take_of_length_le (by simp; omega)
    rw [this, List.take_append_drop]
  rw [e]
  exact (a3.mono b2.ext).append b3
theorem cell_add {a : Addr} {m q : Nat} {v : Value} (h : w.cell? ((a.add m).add q) = some v) : w.cell? ⟨a.block, a.off + (m + q), none⟩ = some v := by
  have hs : ((a.add m).add q).spot = none := by
    cases hsp : ((a.add m).add q).spot with
    | none => rfl
    | some s =>
      simp only [World.cell?] at h
      split at h
      · simp [hsp] at h
      · cases h
  have e : (a.add m).add q = ⟨a.block, a.off + (m + q), none⟩ := by
    have e1 : ((a.add m).add q).block = a.block := by unfold Addr.add; split <;> split <;> rfl
    have e2 : ((a.add m).add q).off = a.off + (m + q) := by unfold Addr.add; split <;> split <;> simp_all [Nat.add_assoc]
    rw [← e1, ← e2, ← hs]
  rw [e] at h; exact h
theorem spot_none {a : Addr} {v : Value} (h : w.cell? ((a.add 0).add 0) = some v) : a = ⟨a.block, a.off, none⟩ := by
  have e : (a.add 0).add 0 = a := by simp [Addr.add]
  rw [e] at h
  have hs : a.spot = none := by
    cases hsp : a.spot with
    | none => rfl
    | some s =>
      simp only [World.cell?] at h
      split at h
      · simp [hsp] at h
      · cases h
  rw [← hs]
theorem cells_get {a : Addr} {n : Nat} {cs : List Value} (h : w.cells? 0 a n = some cs) : cs.length = n ∧ ∀ (q : Nat) (v : Value), cs[q]? = some v → w.cell? (a.add q) = some v := by
  unfold World.cells? at h
  rw [if_pos (Nat.zero_le _)] at h
  have hl : cs.length = n := by simpa using mapM_some_length h
  refine ⟨hl, fun q v hv => ?_⟩
  have hq : q < n := by
    have := (List.getElem?_eq_some_iff.1 hv).1; omega
  rw [mapM_some_get h q q (by simp [hq]), hv]
theorem RdOk.elems {e : TypeId} {sz : Nat} {α : Type} {E : α → List VV} {ok : α → Prop} (R : RdOk enc P w e sz E ok) {a : Addr} {fuel : Nat} {len : Nat} {elems : List (DataW H × List MemPlace)} (hlen : elems.length = len)
    (hr : ∀ i, i < len → (w.cells? 0 (a.add (i * sz)) sz).bind (DataW.trod enc P w 0 (fun _ => true) true fuel e) = elems[i]?) :
    ∀ m, m ≤ len → ∃ (l : List α) (css : List Value), l.length = m ∧ (∀ x ∈ l, ok x) ∧ css.length = m * sz ∧ (∀ (i : Nat) (v : Value), css[i]? = some v → w.cell? ⟨a.block, a.off + i, none⟩ = some v) ∧ (0 < m → 0 < sz → a = ⟨a.block, a.off, none⟩) ∧
      ∀ s, LayOk w s → ∃ s' ds, LayOk w s' ∧ LayLe s s' ∧ VRs s'.j ds css ∧ ds.length = m * sz ∧ XRs s'.Z s'.h none (l.flatMap E) ds
  | 0, _ => ⟨[], [], rfl, by simp, by simp, by simp, fun h => absurd h (by omega), fun s hs => ⟨s, [], hs, LayLe.refl s, .nil, by simp, .nil⟩⟩
  | m + 1, hm => by
    obtain ⟨l, css, h1, h2, h3, h4, h5, h6⟩ := RdOk.elems R hlen hr m (by omega)
    have hx := hr m (by omega)
    rw [List.getElem?_eq_getElem (by omega)] at hx
    obtain ⟨cs, hc, hy⟩ := Option.bind_eq_some_iff.1 hx
    obtain ⟨hcl, hcg⟩ := cells_get hc
    obtain ⟨x, hxo, X⟩ := R _ _ _ hy
    refine ⟨l ++ [x], css ++ cs, by simp [h1], ?_, by simp [h3, hcl, Nat.add_mul], ?_, ?_, ?_⟩
    · intro y hy
      rcases List.mem_append.1 hy with hy | hy
      · exact h2 y hy
      · simp at hy; subst hy; exact hxo
    · intro i v hv
      by_cases hi : i < m * sz
      · rw [List.getElem?_append_left (by omega)] at hv; exact h4 i v hv
      · rw [List.getElem?_append_right (by omega)] at hv
        have := cell_add (hcg _ _ hv)
        rw [show a.off + (m * sz + (i - css.length)) = a.off + i by omega] at this
        exact this
    · intro _ hs
      by_cases h0 : 0 < m
      · exact h5 h0 hs
      · obtain rfl : m = 0 := by omega
        have hv : cs[0]? = some cs[0] := List.getElem?_eq_getElem (by omega)
        have := hcg 0 _ hv
        rw [Nat.zero_mul] at this
        exact spot_none this
    · intro s hs
      obtain ⟨s1, d1, a1, a2, a3, a4, a5⟩ := h6 s hs
      obtain ⟨s2, d2, b1, b2, b3, b4, b5⟩ := X s1 a1
      refine ⟨s2, d1 ++ d2, b1, a2.trans b2, (a3.mono b2.ext).append b3, by simp [a4, b4, Nat.add_mul], ?_⟩
      rw [List.flatMap_append, List.flatMap_cons, List.flatMap_nil, List.append_nil]
      exact (b2.xrs a5).append b5
theorem LayOk.push {s : Lay} (hs : LayOk w s) {b q : Nat} {ds : List DV} (hb : b < w.heap.size) (hc : CellsAt s.j w b q ds) :
    LayOk w ⟨s.nx.suc, Tr.set s.nx s.h (some (.ro ds)), s.j.put s.nx (.ro b q)⟩ ∧ LayLe s ⟨s.nx.suc, Tr.set s.nx s.h (some (.ro ds)), s.j.put s.nx (.ro b q)⟩ := by
  have hnone : s.j s.nx = none := by
    cases hj : s.j s.nx with
    | none => rfl
    | some i => exact absurd (hs.ro _ _ hj).1 (Nat.lt_irrefl _)
  have ne : ∀ k : Dx.P, k.n < s.nx.n → k ≠ s.nx := fun k hk e => by rw [e] at hk; exact Nat.lt_irrefl _ hk
  have le : LayLe s ⟨s.nx.suc, Tr.set s.nx s.h (some (.ro ds)), s.j.put s.nx (.ro b q)⟩ := by
    refine ⟨by rw [Dx.P.n_suc]; omega, fun k i h => ?_, fun k hk => ?_⟩
    · show (s.j.put s.nx (.ro b q)) k = some i
      rw [J.put_ne _ (ne k (hs.ro k i h).1)]; exact h
    · show Tr.get? k (Tr.set s.nx s.h (some (.ro ds))) = _
      rw [Tr.get_set, if_neg (ne k hk)]
  refine ⟨⟨fun k i hk => ?_, fun k hk => ?_⟩, le⟩
  · by_cases e : k = s.nx
    · subst e
      have hk' : i = .ro b q := by
        have := J.put_self s.j s.nx (.ro b q)
        exact (Option.some.inj (hk.symm.trans this))
      exact ⟨by rw [Dx.P.n_suc]; omega, b, q, ds, hk', by rw [Tr.get_set, if_pos rfl], hb, hc.mono le.ext⟩
    · have hk' : s.j k = some i := by
        have := J.put_ne s.j e (.ro b q)
        exact this.symm.trans hk
      obtain ⟨g1, b', q', l', g2, g3, g4, g5⟩ := hs.ro k i hk'
      exact ⟨by rw [Dx.P.n_suc]; omega, b', q', l', g2, by rw [Tr.get_set, if_neg e]; exact g3, g4, g5.mono le.ext⟩
  · rw [Dx.P.n_suc] at hk
    have e : k ≠ s.nx := by intro e; subst e; omega
    rw [Tr.get_set, if_neg e]; exact hs.top k (by omega)
theorem RdOk.slice {t e : TypeId} {sz : Nat} {α : Type} {E : α → List VV} {ok : α → Prop} (ht : P.underlying t = some (.slice e)) (R : RdOk enc P w e sz E ok) (hsz : P.cellsOf e = sz) (hp : 0 < sz) (hw : 0 < w.heap.size) :
    RdOk enc P w t 1 (fun l : List α => [.fz l.length none sz (l.flatMap E)]) (fun l => l.length ≤ maxLen ∧ ∀ x ∈ l, ok x) := by
  intro fuel cs x hx
  rcases DataW.trod_slice ht hx with ⟨rfl, rfl⟩ | ⟨a, len, cap, elems, rest, n, rfl, rfl, rfl, hb, hle, hmax, hlen, hr, _, _⟩
  · exact ⟨[], ⟨by simp, by simp⟩, fun s hs => ⟨s, [.nils], hs, LayLe.refl s, .cons .nils rfl .nil, rfl, .cons (.fz0 (.inl rfl)) .nil⟩⟩
  · rw [hsz] at hr
    obtain ⟨l, css, h1, h2, h3, h4, h5, h6⟩ := R.elems hlen hr len (Nat.le_refl _)
    refine ⟨l, ⟨by omega, h2⟩, fun s hs => ?_⟩
    obtain ⟨s1, d1, a1, a2, a3, a4, a5⟩ := h6 s hs
    have hone : ∀ (b q : Nat), b < w.heap.size → CellsAt s1.j w b q d1 → (∀ j' : J, j' s1.nx = some (.ro b q) → VR j' (.sl s1.nx 0 len none sz) (.slice (some a) len cap)) →
        ∃ s' ds, LayOk w s' ∧ LayLe s s' ∧ VRs s'.j ds [.slice (some a) len cap] ∧ ds.length = 1 ∧ XRs s'.Z s'.h none [.fz l.length none sz (l.flatMap E)] ds := by
      intro b q hb' hc hv
      obtain ⟨k1, k2⟩ := a1.push hb' hc
      refine ⟨_, [.sl s1.nx 0 len none sz], k1, a2.trans k2, .cons (hv _ (J.put_self _ _ _)) rfl .nil, rfl, .cons ?_ .nil⟩
      have hx := k2.xrs a5
      have hlen2 : (l.flatMap E).length = len * sz := by rw [← a4]; exact a5.length
      rw [h1]
      refine .fz (cells := d1) hlen2 (show s1.nx.n < (s1.nx.suc).n by rw [Dx.P.n_suc]; omega) (by unfold objAt; rw [Tr.get_set, if_pos rfl]) (by omega) ?_ (fun x h => by cases h) (fun x h => by cases h)
      rw [List.drop_zero, List.take_of_length_le (by omega)]
      exact hx
    by_cases h0 : 0 < len
    · have ha := h5 h0 hp
      have hcell : CellsAt s1.j w a.block a.off d1 := by
        intro i v hv
        obtain ⟨v', g1, g2, g3⟩ := a3.get i v hv
        exact ⟨v', h4 i v' g1, g2, g3⟩
      have hbl : a.block < w.heap.size := by
        have hpos : 0 < css.length := by rw [h3]; exact Nat.mul_pos h0 hp
        have hv : css[0]? = some css[0] := List.getElem?_eq_getElem hpos
        have := h4 0 _ hv
        unfold World.cell? at this
        cases hh : w.heap[a.block]? with
        | none => simp only [hh, reduceCtorEq] at this
        | some o => exact (Array.getElem?_eq_some_iff.1 hh).1
      refine hone a.block a.off hbl hcell fun j' hj => ?_
      rw [ha]
      exact VR.slO hj (fun _ => rfl) ⟨hle, fun c h => by cases h⟩
    · obtain rfl : len = 0 := by omega
      have hd : d1 = [] := List.eq_nil_of_length_eq_zero (by rw [a4]; omega)
      subst hd
      refine hone 0 0 hw (fun i v hv => by simp at hv) fun j' hj => VR.slE a hj ⟨hle, fun c h => by cases h⟩ (fun c h => by cases h)
end
def Lay.nil : Lay := ⟨.z, .nl, fun _ => none⟩
theorem Lay.nil_ok (w : World) : LayOk w Lay.nil := ⟨fun k i h => (nomatch h), fun k _ => Tr.get_e k⟩
theorem law_calls {Pr : Program} {F : Tr Fd} (hF : FOk Pr F) (hm : Pr.follows .mixedOrders = true) {f : P} {args : List VV} (H : VPure F f args (.bool true)) {w : World} {s : Lay} (hs : LayOk w s) {ds : List DV} {vs : List Value}
    (hv : VRt s.j ds vs) (hx : XRs s.Z s.h none args ds) : Calls Pr f.n vs.toArray w fun r w' => r = .returned (.bool true) ∧ GrownO w w' ∧ ∀ i, i < w.heap.size → w'.heap[i]? = w.heap[i]? := by
  have hH : HpR ⟨none, none, s.nx, s.h, s.Z, fun _ => False⟩ 0 0 [] s.nx s.h ⟨s.Z, fun _ => none⟩ := {
    blk := fun k o h => by simp [hget] at h
    own := fun k o r b q h => by simp [hget] at h
    inj := fun k k' o o' r r' b q q' h => by simp [hget] at h
    zlt := fun b h => h
    zold := fun b h => .inl h
    top := hs.top
    keep := fun b _ _ => rfl
    le := Nat.le_refl _
    wm := fun m h => (nomatch h)
    wf := fun m h => (nomatch h) }
  obtain ⟨r, nx', h', x, dnx', dh', g', ⟨fuel, hrun⟩, _, hxr, _, rfl⟩ := H _ s.nx s.h ⟨s.Z, fun _ => none⟩ ds rfl hH hx.none_any
  cases hxr
  have hr := hrun fuel (Nat.le_refl _) .nl okV
  obtain ⟨v1, nx1, h1, hk, hcall, _⟩ := call_sim hF (exec_sound hF hm fuel) (show callK F (exec F fuel) none f ds .nl s.nx s.h okV = .ok .norm (.nd (some (.bool true)) .nl .nl) dnx' dh' from hr)
  change Res.ok .norm (.nd (some v1) .nl .nl) nx1 h1 = _ at hk
  cases hk
  have R : Rel (fun _ => False) 0 dnx'.n s.j (fun _ => none) .nl s.nx s.h { tmps := #[], defers := [] } w := {
    fresh := fun k i h => .inl (hs.ro k i h).1
    heap := fun k i h _ => by
      obtain ⟨_, b, q, l, rfl, g2, g3, g4⟩ := hs.ro k i h
      exact ⟨l, g2, g3, g4⟩
    inj := fun k k' b q c q' c' h => by obtain ⟨_, _, _, _, e, _⟩ := hs.ro k _ h; cases e
    inr := fun k k' b q c q' h => by obtain ⟨_, _, _, _, e, _⟩ := hs.ro k _ h; cases e
    env := fun p v h => by rw [Tr.get_e] at h; cases h
    pvv := fun p b h => nomatch h
    pin := fun p q b h => nomatch h
    pfr := fun p b h => nomatch h
    pfo := fun p b h => nomatch h
    loc := fun p l h => by rw [Tr.get_e] at h; cases h
    size := rfl
    lt := fun k b q c h => by obtain ⟨_, _, _, _, e, _⟩ := hs.ro k _ h; cases e
    lr := fun k b q h => by obtain ⟨_, _, _, _, e, _, g, _⟩ := hs.ro k _ h; cases e; exact g
    top := hs.top }
  refine (hcall _ _ dnx'.n _ _ _ { tmps := #[], defers := [] } w R (Nat.le_refl _) vs hv).mono ?_
  rintro r w' ⟨v', j', rfl, R', F', hv⟩
  cases hv
  have same : ∀ i, i < w.heap.size → w'.heap[i]? = w.heap[i]? := fun i hi => F'.same i hi (fun k q c h => by obtain ⟨_, _, _, _, e, _⟩ := hs.ro k _ h; cases e) (fun p h => nomatch h)
  refine ⟨rfl, ⟨⟨F'.os, F'.output, fun i hi => ?_⟩, F'.froz, F'.size⟩, same⟩
  rw [same i hi]
  cases w.heap[i]? with
  | none => rfl
  | some ob => cases ob <;> simp
theorem stays {H : Type} {enc : TypeId × Value → H} {P : Program} {T : TypeId → Prop} (K : Kids P T) (hz : ∀ t e, T t → P.underlying t = some (.slice e) → 0 < P.cellsOf e) {W W' : World} {sp : Nat → Bool} :
    ∀ {ts : List TypeId} {vs : List Value} {ds : List (DataW H)} {ps : List MemPlace}, (∀ t ∈ ts, T t) → DataW.TrodAll enc P W 0 (fun _ => true) true ts vs ds ps → (∀ p ∈ ps, W.sameAt W' p) → (∀ p ∈ ps, sp p.block = true) → DataW.TrodAll enc P W' 0 sp true ts vs ds ps
  | [], [], [], _, _, h, _, _ => h
  | _ :: _, _ :: _, _ :: _, _, hT, ⟨p, q, ⟨n, h1⟩, h2, e⟩, hm, hs =>
    ⟨p, q, ⟨n, DataW.trod_respare K hz n _ _ _ (hT _ (List.mem_cons.2 (Or.inl rfl))) (DataW.trod_carry n _ _ _ h1 (fun x hx => hm x (by rw [e]; exact List.mem_append_left _ hx))) (fun x hx => hs x (by rw [e]; exact List.mem_append_left _ hx))⟩,
      stays K hz (fun t ht => hT t (List.mem_cons.2 (Or.inr ht))) h2 (fun x hx => hm x (by rw [e]; exact List.mem_append_right _ hx)) (fun x hx => hs x (by rw [e]; exact List.mem_append_right _ hx)), e⟩
theorem sameAt_of {W W' : World} (h : ∀ i, i < W.heap.size → W'.heap[i]? = W.heap[i]?) {p : MemPlace} (hp : p.block < W.heap.size) : W.sameAt W' p := by
  cases p with
  | cell b o => show W'.cell? _ = W.cell? _; unfold World.cell?; rw [h b hp]
  | map b => exact h b hp
theorem post_of_old {H : Type} {enc : TypeId × Value → H} {P : Program} {f : Func} {s : ChangeSpec} {apart fresh handsOn again : Bool} {W W' : World} {args : Array Value} {v : Value} {ds gs : List (DataW H)} {before pa pv : List MemPlace}
    (hW : DataW.Whole enc P f.params.toList s.vars apart W args.toList ds gs before)
    (hres : ∀ (b : Nat) (sp : Nat → Bool) (hd : Bool), DataW.TrodAll enc P W' b sp hd f.resultTypes.toList (v.resultList f.resultTypes.size) (s.fn H (ds ++ gs)).results [])
    (hargs : ∀ sp : Nat → Bool, (∀ p ∈ before, sp p.block = true) → DataW.TrodAll enc P W' 0 sp true f.params.toList args.toList (s.fn H (ds ++ gs)).args pa)
    (hvars : ∀ sp : Nat → Bool, (∀ p ∈ before, sp p.block = true) → DataW.TrodVars enc P W' sp s.vars (s.fn H (ds ++ gs)).vars pv)
    (hps : before = pa ++ pv) (hg : GrownO W W')
    (hok : ∀ (j : Nat) (t : TypeId) (r : Value), f.resultTypes[j]? = some t → (v.resultList f.resultTypes.size)[j]? = some r → Value.okWide P W' .any 0 t r) :
    s.post enc P f apart fresh handsOn again W args v W' := by
  have hlt := hW.lt
  have hin : ∀ p, p ∈ ([] ++ pa) ++ pv ↔ p ∈ before := fun p => by rw [hps, List.nil_append]
  have hold : ∀ p ∈ before, (fun b => decide (b < W.heap.size)) p.block = true := fun p hp => by simpa using hlt p hp
  have hfree := hW
  obtain ⟨_, _, _, _, _, hz, hn⟩ := hfree
  refine ⟨ds, gs, before, [], pa, pv, hW, hres _ _ _, hargs _ hold, hvars _ hold, World.keptBut_mono (fun p hp => ⟨hp, ?_⟩) (hg.frame (· ∈ before)), fun _ => ⟨hok, (s.fn H (ds ++ gs)).results ++ (s.fn H (ds ++ gs)).args, (s.fn H (ds ++ gs)).vars, ([] ++ pa) ++ pv, ⟨[] ++ pa, pv, trodAll_append (hargs (fun _ => true) (fun _ _ => rfl)) (hres _ _ _), hvars _ (fun _ _ => rfl), rfl, ?_, ?_⟩, ?_⟩⟩
  · have h2 : p ∈ before := hp
    rw [hps] at h2
    exact .inr (List.mem_append.1 h2)
  · intro b off hp
    have hb := (hin _).1 hp
    rw [hg.2.1 ⟨b, off, none⟩ (hlt (.cell b off) hb)]
    exact hz b off hb
  · intro ha
    have := hn ha
    rw [hps] at this
    exact this
  · intro p hp _
    exact (hin p).1 hp
end Go.Proofs.Ythdlkpmhjbaplaa.Dx
namespace Go.Proofs
open Go
def Try.sortL_ren : Go.Shelf.Ren := ⟨fun | 5 => 114 | 8 => 122 | 7 => 121 | 19 => 132 | 20 => 133 | 10 => 123 | 11 => 124 | 12 => 125 | 13 => 126 | 14 => 127 | 15 => 128 | 16 => 129 | 17 => 130 | 18 => 131 | 30 => 134 | 31 => 135 | 32 => 136 | 33 => 137 | 34 => 138 | 35 => 139 | 40 => 140 | n => n, fun | 23 => 40 | 25 => 3 | 3 => 3 | 32 => 67 | 22 => 40 | 0 => 0 | 44 => 142 | 46 => 144 | 4 => 4 | 36 => 136 | 35 => 135 | 41 => 55 | 5 => 5 | 9 => 9 | 53 => 145 | 57 => 149 | 63 => 151 | 64 => 46 | n => n, fun | n => n⟩
theorem Try.sortL : Go.Proofs.SlLaysM.n5 Try.prog Try.sortL_ren := {
  mixed := by kernel_rfl,
  f5 := ⟨ "slices.Sort[[]int,int]", by decide, Try.func114.trans (congrArg some (by kernel_rfl))⟩,
  f7 := ⟨ "slices.pdqsortOrdered[int]", by decide, Try.func121.trans (congrArg some (by kernel_rfl))⟩,
  f8 := Try.func122.trans (congrArg some (by kernel_rfl)),
  f10 := ⟨ "slices.insertionSortOrdered[int]", by decide, Try.func123.trans (congrArg some (by kernel_rfl))⟩,
  f11 := ⟨ "slices.heapSortOrdered[int]", by decide, Try.func124.trans (congrArg some (by kernel_rfl))⟩,
  f12 := ⟨ "slices.breakPatternsOrdered[int]", by decide, Try.func125.trans (congrArg some (by kernel_rfl))⟩,
  f13 := ⟨ "slices.choosePivotOrdered[int]", by decide, Try.func126.trans (congrArg some (by kernel_rfl))⟩,
  f14 := ⟨ "slices.reverseRangeOrdered[int]", by decide, Try.func127.trans (congrArg some (by kernel_rfl))⟩,
  f15 := ⟨ "slices.partialInsertionSortOrdered[int]", by decide, Try.func128.trans (congrArg some (by kernel_rfl))⟩,
  f16 := ⟨ "cmp.Less[int]", by decide, Try.func129.trans (congrArg some (by kernel_rfl))⟩,
  f17 := ⟨ "slices.partitionEqualOrdered[int]", by decide, Try.func130.trans (congrArg some (by kernel_rfl))⟩,
  f18 := ⟨ "slices.partitionOrdered[int]", by decide, Try.func131.trans (congrArg some (by kernel_rfl))⟩,
  f19 := Try.func132.trans (congrArg some (by kernel_rfl)),
  f20 := Try.func133.trans (congrArg some (by kernel_rfl)),
  f30 := ⟨ "slices.siftDownOrdered[int]", by decide, Try.func134.trans (congrArg some (by kernel_rfl))⟩,
  f31 := Try.func135.trans (congrArg some (by kernel_rfl)),
  f32 := Try.func136.trans (congrArg some (by kernel_rfl)),
  f33 := ⟨ "slices.medianAdjacentOrdered[int]", by decide, Try.func137.trans (congrArg some (by kernel_rfl))⟩,
  f34 := ⟨ "slices.medianOrdered[int]", by decide, Try.func138.trans (congrArg some (by kernel_rfl))⟩,
  f35 := ⟨ "cmp.isNaN[int]", by decide, Try.func139.trans (congrArg some (by kernel_rfl))⟩,
  f40 := ⟨ "slices.order2Ordered[int]", by decide, Try.func140.trans (congrArg some (by kernel_rfl))⟩,
  t0 := Try.underlying0,
  a0 := Try.isAgg0,
  z0 := Try.sizeOf0,
  v0 := Try.zeroValue0,
  t3 := Try.underlying3,
  a3 := Try.isAgg3,
  z3 := Try.sizeOf3,
  v3 := Try.zeroValue3,
  t4 := Try.underlying4,
  a4 := Try.isAgg4,
  z4 := Try.sizeOf4,
  v4 := Try.zeroValue4,
  t5 := Try.underlying5,
  a5 := Try.isAgg5,
  z5 := Try.sizeOf5,
  v5 := Try.zeroValue5,
  t9 := Try.underlying9,
  a9 := Try.isAgg9,
  z9 := Try.sizeOf9,
  v9 := Try.zeroValue9,
  t22 := Try.underlying40,
  a22 := Try.isAgg40,
  z22 := Try.sizeOf40,
  v22 := Try.zeroValue40,
  t23 := Try.underlying40,
  a23 := Try.isAgg40,
  z23 := Try.sizeOf40,
  v23 := Try.zeroValue40,
  t25 := Try.underlying3,
  a25 := Try.isAgg3,
  z25 := Try.sizeOf3,
  v25 := Try.zeroValue3,
  t32 := Try.underlying67,
  a32 := Try.isAgg67,
  z32 := Try.sizeOf67,
  v32 := Try.zeroValue67,
  t35 := Try.underlying135,
  a35 := Try.isAgg135,
  z35 := Try.sizeOf135,
  v35 := Try.zeroValue135,
  t36 := Try.underlying136,
  a36 := Try.isAgg136,
  z36 := Try.sizeOf136,
  v36 := Try.zeroValue136,
  t41 := Try.underlying55,
  a41 := Try.isAgg55,
  z41 := Try.sizeOf55,
  v41 := Try.zeroValue55,
  t44 := Try.underlying142,
  a44 := Try.isAgg142,
  z44 := Try.sizeOf142,
  v44 := Try.zeroValue142,
  t46 := Try.underlying144,
  a46 := Try.isAgg144,
  z46 := Try.sizeOf144,
  v46 := Try.zeroValue144,
  t53 := Try.underlying145,
  a53 := Try.isAgg145,
  z53 := Try.sizeOf145,
  v53 := Try.zeroValue145,
  t57 := Try.underlying149,
  a57 := Try.isAgg149,
  z57 := Try.sizeOf149,
  v57 := Try.zeroValue149,
  t63 := Try.underlying151,
  a63 := Try.isAgg151,
  z63 := Try.sizeOf151,
  v63 := Try.zeroValue151,
  t64 := Try.underlying46,
  a64 := Try.isAgg46,
  z64 := Try.sizeOf46,
  v64 := Try.zeroValue46 }
end Go.Proofs
namespace Go.Proofs.Ythdlkpmhjbaplaa.Dx
open Go
theorem insI_perm (x : Int) : ∀ l : List Int, (insI x l).Perm (x :: l)
  | [] => .refl _
  | y :: t => by
    unfold insI
    cases h : ilt y x with
    | true => exact (List.Perm.cons y (insI_perm x t)).trans (.swap x y t)
    | false => exact .refl _
theorem sortI_perm : ∀ l : List Int, (sortI l).Perm l
  | [] => .refl _
  | x :: l => by unfold sortI; exact (insI_perm x _).trans (.cons x (sortI_perm l))
theorem insI_sorted (x : Int) : ∀ l : List Int, l.Pairwise (· ≤ ·) → (insI x l).Pairwise (· ≤ ·)
  | [], _ => by simp [insI]
  | y :: t, h => by
    have h2 := List.pairwise_cons.1 h
    unfold insI
    cases hh : ilt y x with
    | true =>
      rw [ilt_eq, decide_eq_true_eq] at hh
      refine List.pairwise_cons.2 ⟨fun z hz => ?_, insI_sorted x t h2.2⟩
      have hz' := (insI_perm x t).mem_iff.1 hz
      rcases List.mem_cons.1 hz' with rfl | hz'
      · omega
      · exact h2.1 z hz'
    | false =>
      rw [ilt_eq, decide_eq_false_iff_not] at hh
      refine List.pairwise_cons.2 ⟨fun z hz => ?_, h⟩
      rcases List.mem_cons.1 hz with rfl | hz'
      · omega
      · have := h2.1 z hz'; omega
theorem sortI_sorted : ∀ l : List Int, (sortI l).Pairwise (· ≤ ·)
  | [] => .nil
  | x :: l => by unfold sortI; exact insI_sorted x _ (sortI_sorted l)
theorem sortI_merge (l : List Int) : l.mergeSort (fun x y => decide (x ≤ y)) = sortI l := by
  refine List.Perm.eq_of_pairwise (le := (· ≤ ·)) (fun a b _ _ h1 h2 => by omega) ?_ (sortI_sorted l) ((List.mergeSort_perm _ _).trans (sortI_perm l).symm)
  have := List.pairwise_mergeSort (le := fun x y : Int => decide (x ≤ y)) (fun a b c h1 h2 => by simp only [decide_eq_true_eq] at *; omega) (fun a b => by simp only [Bool.or_eq_true, decide_eq_true_eq]; omega) l
  exact this.imp (fun h => of_decide_eq_true h)
theorem sortI_length (l : List Int) : (sortI l).length = l.length := (sortI_perm l).length_eq
theorem intsOf_eq : ∀ {ds : List DV} {xs : List Int}, intsOf ds = some xs → ds = xs.map (DV.int .i64)
  | [], xs, h => by simp only [intsOf, Option.some.injEq] at h; subst h; rfl
  | d :: ds, xs, h => by
    cases d <;> try (simp [intsOf] at h; done)
    rename_i k n
    cases k <;> try (simp [intsOf] at h; done)
    simp only [intsOf] at h
    cases hq : intsOf ds with
    | none => simp only [hq, reduceCtorEq] at h
    | some r =>
      simp only [hq, Option.some.injEq] at h
      subst h
      rw [intsOf_eq hq]; rfl
theorem VRs.ints (j : J) : ∀ xs : List Int, VRs j (xs.map (DV.int .i64)) (xs.map (Value.int .i64))
  | [] => .nil
  | x :: xs => .cons (.int _ _) rfl (VRs.ints j xs)
section
variable {L : P → Prop} {N hi : Nat} {j : J} {pv : P → Option Nat} {e : Env} {nx : P} {h : Hp} {a : Act} {w : World}
theorem Rel.grow (R : Rel L N hi j pv e nx h a w) (os : Array Obj) : Rel L N hi j pv e nx h a (Sort.grow w os) where
  fresh := R.fresh
  heap := fun k i hk hlt => HR.of_heap (w := w) (Ext.refl j) rfl (by simp) (fun b hb => Sort.heap_grow_old w os (by
    rcases hb with ⟨s', c', rfl⟩ | ⟨s', rfl⟩
    · exact R.lt _ _ _ _ hk
    · exact R.lr _ _ _ hk)) (R.heap k i hk hlt)
  inj := R.inj
  inr := R.inr
  env := fun p v hv => ER.of_heap (w := w) (Ext.refl j) (by simp) (fun b hb => Sort.heap_grow_old w os (by
    obtain ⟨l, hl⟩ := R.pvv p b hb
    obtain ⟨b', h1, _, h2, _⟩ := (R.env p _ hl : ER j pv w a.tmps p (.var l))
    rw [hb] at h1; cases h1; exact h2.lt)) (R.env p v hv)
  pvv := R.pvv
  pin := R.pin
  pfr := R.pfr
  pfo := R.pfo
  loc := R.loc
  size := R.size
  lt := fun k b s c hk => by have := R.lt k b s c hk; simp; omega
  lr := fun k b s hk => by have := R.lr k b s hk; simp; omega
  top := R.top
theorem Fr.grow (hi n : Nat) (j : J) (pv : P → Option Nat) (w : World) (os : Array Obj) : Fr hi n j pv w j pv (Sort.grow w os) :=
  { Fr.refl hi n j pv w with size := by simp, os := rfl, output := rfl, same := fun x hx _ _ => Sort.heap_grow_old w os hx, new := fun k x s c h hk => .inl ⟨k, s, c, h, hk⟩, pnew := fun p x h => .inl h, froz := fun ad hl => Sort.frozen?_grow w os ad hl }
end
theorem putRow_set0 {w : World} {blk off : Nat} {xs ys : List Int} (hH : Sort.Holds (Value.int .i64) w blk off xs.toArray) (hl : ys.length = xs.length) :
    Sort.putRow (Value.int .i64) w blk off ys.toArray = w.setCells blk off (ys.map (Value.int .i64)) := by
  have h1 := Lib.putRow_setCells (Value.int .i64) w blk off ys xs.toArray 0 (by simp; omega)
  rw [Sort.putRow_self _ _ _ _ _ hH, Nat.add_zero] at h1
  rw [h1]
  congr 1
  apply Array.ext_getElem?
  intro t
  rw [Lib.lay_get? _ _ _ _ (by simp; omega)]
  by_cases ht : t < ys.length
  · rw [if_pos (by omega)]; simp
  · rw [if_neg (by omega)]
    rw [Array.getElem?_eq_none (by simp; omega), Array.getElem?_eq_none (by simp; omega)]
theorem primV0 {wm : Option P} {vs : List DV} {nx : P} {h : Hp} {v : DV} {nx' : P} {h' : Hp} (hp : primV 0 wm vs nx h = some (v, nx', h')) :
    (vs = [.nils] ∧ v = .tup [] ∧ nx' = nx ∧ h' = h) ∨
    ∃ b o n cp l xs, vs = [.sl b o n cp 1] ∧ mayB wm b = true ∧ n ≤ 1000000 ∧ Tr.get? b h = some (.cells l) ∧ o + n ≤ l.length ∧ intsOf ((l.drop o).take n) = some xs ∧ v = .tup [] ∧ nx' = nx ∧
      h' = Tr.set b h (some (.cells (l.take o ++ (sortI xs).map (DV.int .i64) ++ l.drop (o + n)))) := by
  unfold primV at hp
  split at hp
  · rename_i b o n cp sz _
    split at hp
    · rename_i hb hg
      split at hp
      · rename_i hle hxs
        simp only [Option.some.injEq, Prod.mk.injEq] at hp
        obtain ⟨rfl, rfl, rfl⟩ := hp
        simp only [Bool.and_eq_true, Nat.beq_eq, Nat.ble_eq] at hb hle
        obtain ⟨⟨rfl, hmay⟩, hn⟩ := hb
        exact .inr ⟨_, _, _, _, _, _, rfl, hmay, hn, hg, hle, hxs, rfl, rfl, rfl⟩
      · cases hp
    · cases hp
  · simp only [Option.some.injEq, Prod.mk.injEq] at hp
    obtain ⟨rfl, rfl, rfl⟩ := hp
    exact .inl ⟨rfl, rfl, rfl, rfl⟩
  · rename_i h0; cases h0
  · cases hp
theorem sort_prim {Pr : Program} {ρ : Go.Shelf.Ren} (Ly : SlLaysM.n5 Pr ρ) {f : P} (hf : f.n = ρ.f 5) (hx : ∃ fn, Pr.funcs[f.n]? = some fn ∧ (fn.name == "runtime.NumGoroutine") = false ∧ fn.body.isNone = false) : PrimOk Pr f 0 := by
  refine ⟨hx, fun wm vs nx h v nx' h' hp => ?_⟩
  rcases primV0 hp with ⟨rfl, rfl, rfl, rfl⟩ | ⟨b, o, n, cp, l, xs, rfl, hmay, hn, hg, hle, hxs, rfl, rfl, rfl⟩
  · refine ⟨?_, MovesC.refl _ _ _⟩
    intro L N hi j pv e a w R _ args hargs
    cases hargs with
    | cons hv ht =>
      cases ht
      have hv' := XD.nils (j := j) (pv := pv) hv
      subst hv'
      rw [hf]
      refine (AnyM.slices_Sort_int_none Ly none 0 w).mono ?_
      rintro r w' ⟨rfl, rfl⟩
      exact ⟨_, j, rfl, R, Fr.refl _ _ _ _ _, .tup (l' := []) .nil⟩
  have hxl : xs.length = n := by
    have h1 := congrArg List.length (intsOf_eq hxs)
    simp only [List.length_take, List.length_drop, List.length_map] at h1; omega
  have hsl := sortI_length xs
  have hml : ((sortI xs).map (DV.int .i64)).length = n := by simp; omega
  refine ⟨?_, ⟨Nat.le_refl _, fun m hm hmn k hk => ?_, fun ht k hk => ?_⟩⟩
  · intro L N hi j pv e a w R hnh args hargs
    cases hargs with
    | cons hv ht =>
      cases ht
      have hlt : b.n < nx'.n := by
        rcases Nat.lt_or_ge b.n nx'.n with h' | h'
        · exact h'
        · rw [R.top b h'] at hg; cases hg
      cases hv with
      | slO hjk => obtain ⟨_, hg', _⟩ := R.heap b _ hjk hlt; rw [hg] at hg'; cases hg'
      | slD _ hjk => have hg' : Tr.get? b h = some .dead := R.heap b _ hjk hlt; rw [hg] at hg'; cases hg'
      | slE _ hjk => obtain ⟨_, hg', _⟩ := R.heap b _ hjk hlt; rw [hg] at hg'; cases hg'
      | slA hjk hoff hcap hs he =>
        rename_i blk s c off cap
        obtain ⟨hlies, l', hg', hll, hcells⟩ := R.heap b _ hjk hlt
        rw [hg] at hg'; cases hg'
        have hoff' : 0 < n → off = s + o := fun h0 => hoff (.inl h0)
        have hH : Sort.Holds (Value.int .i64) w blk off xs.toArray := by
          intro t ht
          have ht' : t < xs.length := by simpa using ht
          have h0 := hoff' (by omega)
          subst h0
          have hlt' : l[o + t]? = some (DV.int .i64 xs[t]) := by
            have h1 := congrArg (fun q => q[t]?) (intsOf_eq hxs)
            simp only [List.getElem?_take, List.getElem?_drop, List.getElem?_map, List.getElem?_eq_getElem ht', Option.map_some] at h1
            rw [if_pos (by omega)] at h1
            exact h1
          obtain ⟨v', g1, g2, _⟩ := hcells (o + t) _ hlt'
          cases g2
          refine ⟨?_, ?_⟩
          · rw [Nat.add_assoc, g1, getElem!_pos _ t ht]; simp
          · rw [Nat.add_assoc]; exact hlies.free _ (by omega) (by omega)
        rw [hf]
        have key := AnyM.slices_Sort_int Ly blk off cap xs w hH hlies.lt (by omega)
        rw [hxl] at key
        refine key.mono ?_
        rintro r w' ⟨rfl, q, os, rfl⟩
        rw [sortI_merge, putRow_set0 (Sort.holds_ahead _ _ _ _ _ _ hH) hsl]
        obtain ⟨R2, F2⟩ := (R.drew (w.drawn + q)).at_store hnh hjk hlt hg (VRs.ints j (sortI xs)) (by rw [hml]; exact hle)
        have hset : (Sort.ahead w q).setCells blk off ((sortI xs).map (Value.int .i64)) = World.setCells { w with drawn := w.drawn + q } blk (s + o) ((sortI xs).map (Value.int .i64)) := by
          rcases Nat.eq_zero_or_pos n with h0 | h0
          · have : sortI xs = [] := List.eq_nil_of_length_eq_zero (by omega)
            rw [this]; rfl
          · rw [hoff' h0]; rfl
        rw [hset]
        rw [hml] at R2
        exact ⟨_, j, rfl, R2.grow os, ((Fr.drew hi nx'.n j pv w _).trans F2 (Nat.le_refl _)).trans (Fr.grow hi nx'.n j pv _ os) (Nat.le_refl _), .tup (l' := []) .nil⟩
  · have : k ≠ b := by
      rintro rfl
      subst hm
      have : Nat.ble m.n k.n = true := hmay
      rw [Nat.ble_eq] at this; omega
    exact Tr.get_set_ne this _ _
  · have : k ≠ b := by
      rintro rfl
      rw [ht k hk] at hg; cases hg
    rw [Tr.get_set_ne this]; exact ht k hk
end Go.Proofs.Ythdlkpmhjbaplaa.Dx
namespace Go.Proofs.Ythdlkpmhjbaplaa.Dx
open Go Go.RowKit
def zC : Array Value := #[.int .i64 0, .slice none 0 0, .bool false]
theorem run_clear3 {w : World} {b off n cap : Nat} (ty : Nat) (hn : 0 < n) (hc : ∀ t, t < n * 3 → (w.cell? ⟨b, off + t, none⟩).isSome = true) (hf : ∀ t, t < n * 3 → w.frozen? ⟨b, off + t, none⟩ = false) :
    (Builtin.clear_ #[22] ty #[.slice (some ⟨b, off, none⟩) n cap]).run Try.prog w = .ok (.tuple #[]) (w.setCells b off (Builtin.zeroCells zC n).toList) := by
  have hl : (Builtin.zeroCells zC n).toList.length = n * 3 := by rw [Array.length_toList, zeroCells_size]; rfl
  have h1 : ∀ u ∈ (Builtin.zeroCells zC n).toList, u.oneCell' = true := by
    exact (zeroCells_reps (j := fun _ => none) (z := [.int .i64 0, .nils, .bool false]) (.cons (.int _ _) rfl (.cons .nils rfl (.cons (.bool _) rfl .nil))) n).ones
  have hst := run_storeCells_cells (P := Try.prog) b off (Builtin.zeroCells zC n).toList 0 w (fun q hq => by simpa using hc q (by omega)) (fun q hq => by simpa using hf q (by omega)) h1
  obtain ⟨m, rfl⟩ : ∃ m, n = m + 1 := ⟨n - 1, by omega⟩
  try simp only [Nat.add_zero] at hst
  have hz : ∀ W : World, (zeroValue 31).run Try.prog W = .ok (.agg zC) W := Try.zeroValue31
  simp only [Builtin.clear_, Sem.run_bind, Sem.run_pure, Result.andThen_ok, List.getElem?_toArray, List.getElem?_cons_zero, run_underlying Try.underlying22, hz]
  show ((storeCells ⟨b, off, none⟩ (Builtin.zeroCells zC (m + 1)).toList).run Try.prog w).andThen _ = _
  rw [hst]; rfl
set_option maxHeartbeats 4000000 in
set_option maxRecDepth 1000000 in
theorem del_walk (blk off n cap i j : Nat) (vs : List Value) (w : World) (hl : vs.length = n * 3) (hc : ∀ t v, vs[t]? = some v → w.cell? ⟨blk, off + t, none⟩ = some v) (h1 : ∀ v ∈ vs, v.oneCell' = true)
    (hf : ∀ t, t < n * 3 → w.frozen? ⟨blk, off + t, none⟩ = false) (hcap : n ≤ cap) (hm : n ≤ 1000000) (hlt : i < j) (hj : j ≤ n) :
    Calls Try.prog 101 #[.slice (some ⟨blk, off, none⟩) n cap, .int .i64 i, .int .i64 j] w fun e w' => e = .returned (.slice (some ⟨blk, off, none⟩) (i + (n - j)) cap) ∧
      w' = (w.drew.setCells blk (off + i * 3) (vs.drop (j * 3))).setCells blk (off + (i + (n - j)) * 3) (Builtin.zeroCells zC (n - (i + (n - j)))).toList := by
  have mixed : Try.prog.follows .mixedOrders = true := by kernel_rfl
  obtain ⟨i0, hi0, hz1⟩ : ∃ i0, Try.prog.info? 31 = some i0 ∧ i0.size = 3 := by
    have h : (Try.prog.info? 31).map (·.size) = some 3 := by kernel_rfl
    cases hh : Try.prog.info? 31 with
    | none => rw [hh] at h; cases h
    | some i0 => rw [hh] at h; exact ⟨i0, rfl, by simpa using h⟩
  obtain ⟨news, hnews⟩ : ∃ news, news = vs.drop (j * 3) := ⟨_, rfl⟩
  have hlen : news.length = (n - j) * 3 := by rw [hnews, List.length_drop, hl, Nat.sub_mul]
  obtain ⟨A, hA, hsrc⟩ : ∃ A : Addr, (if cap = j then some (⟨blk, off, none⟩ : Addr) else some ⟨blk, off + j * 3, none⟩) = some A ∧ Hid (∀ t u, news[t]? = some u → w.drew.cell? (A.add t) = some u) := by
    by_cases h : cap = j
    · refine ⟨⟨blk, off, none⟩, by simp [h], fun t u hu => ?_⟩
      have h0 : news.length = 0 := by rw [hlen]; omega
      rw [List.length_eq_zero_iff.1 h0] at hu
      simp at hu
    · refine ⟨⟨blk, off + j * 3, none⟩, by simp [h], fun t u hu => ?_⟩
      rw [hnews, List.getElem?_drop] at hu
      rw [Addr.add_lit, show off + j * 3 + t = off + (j * 3 + t) by omega]
      exact hc _ _ hu
  have s1 : Hid (news.length = (n - j) * 3) := hlen
  have s2 : Hid (∀ u ∈ news, u.oneCell' = true) := by
    intro u hu
    rw [hnews] at hu
    exact h1 u (List.mem_of_mem_drop hu)
  have s3 : Hid (∀ t, t < news.length → (w.drew.cell? ⟨blk, off + i * 3 + t, none⟩).isSome = true ∧ w.drew.frozen? ⟨blk, off + i * 3 + t, none⟩ = false) := by
    intro t ht
    rw [hlen] at ht
    rw [Nat.add_assoc]
    have hb : i * 3 + t < vs.length := by omega
    exact ⟨by show (w.cell? _).isSome = true; rw [hc (i * 3 + t) _ (List.getElem?_eq_getElem hb)]; rfl, hf (i * 3 + t) (by omega)⟩
  obtain ⟨W1, hW1⟩ : ∃ W1, W1 = w.drew.setCells blk (off + i * 3) news := ⟨_, rfl⟩
  have hcl : ∀ ty, (Builtin.clear_ #[22] ty #[.slice (some ⟨blk, off + (i + (n - j)) * 3, none⟩) (n - (i + (n - j))) (cap - (i + (n - j)))]).run Try.prog W1 = .ok (.tuple #[]) (W1.setCells blk (off + (i + (n - j)) * 3) (Builtin.zeroCells zC (n - (i + (n - j)))).toList) := by
    intro ty
    refine run_clear3 ty (by omega) (fun t ht => ?_) (fun t ht => ?_)
    · rw [hW1, setCells_some]
      have hb : (i + (n - j)) * 3 + t < vs.length := by omega
      rw [Nat.add_assoc]
      show (w.cell? _).isSome = true
      rw [hc _ _ (List.getElem?_eq_getElem hb)]; rfl
    · rw [hW1, World.frozen?_setCells, Nat.add_assoc]
      exact hf _ (by omega)
  have hW : Hid (W1 = w.drew.setCells blk (off + i * 3) news) := hW1
  have X : Aside (W1 = w.drew.setCells blk (off + i * 3) (vs.drop (j * 3))) := by rw [← hnews]; exact hW1
  have hic : i ≤ cap := by omega
  have hjc : j ≤ cap := by omega
  have hne : ¬ (i : Int) = (j : Int) := by omega
  clear hW1 hnews hc hf hlen h1 hl
  go_enter Try.func101, Try.ntmps101
  go_wp2_with fail
  go_region_law_o (refine step_append_room rfl (.tmp 22) (.tmp 25) 22 rfl 31 i0 3 Try.underlying22 hi0 hz1 blk off i cap (by simp [Act.eval, Act.put]) A (n - j) (cap - j) news (by simp [Act.eval, Act.put]) s1.out hsrc.out s2.out (by omega) s3.out ?_; rw [← hW.out])
  go_wp2
  go_ret
  exact ⟨rfl, by rw [X.out]⟩
theorem setCells_app (b : Nat) : ∀ (xs ys : List Value) (o : Nat) (w : World), w.setCells b o (xs ++ ys) = (w.setCells b o xs).setCells b (o + xs.length) ys
  | [], _, _, _ => rfl
  | x :: xs, ys, o, w => by
    simp only [List.cons_append, World.setCells, List.length_cons]
    rw [setCells_app b xs ys, show o + 1 + xs.length = o + (xs.length + 1) by omega]
theorem delZ_reps : ∀ n, delZ n = reps [.int .i64 0, .nils, .bool false] n
  | 0 => rfl
  | n + 1 => by rw [delZ, delZ_reps n]; simp [reps, List.replicate_succ]
theorem primV1 {wm : Option P} {vs : List DV} {nx : P} {h : Hp} {v : DV} {nx' : P} {h' : Hp} (hp : primV 1 wm vs nx h = some (v, nx', h')) :
    ∃ b o n cp l, ∃ i j : Nat, vs = [.sl b o n cp 3, .int .i64 i, .int .i64 j] ∧ mayB wm b = true ∧ n ≤ 1000000 ∧ Tr.get? b h = some (.cells l) ∧ o + n * 3 ≤ l.length ∧ i < j ∧ j ≤ n ∧ v = .sl b o (n - (j - i)) none 3 ∧ nx = nx' ∧
      h' = Tr.set b h (some (.cells (l.take (o + i * 3) ++ ((l.drop (o + j * 3)).take ((n - j) * 3) ++ delZ (j - i)) ++ l.drop (o + n * 3)))) := by
  unfold primV at hp
  split at hp
  · rename_i h0; cases h0
  · rename_i h0; cases h0
  · rename_i b o n cp sz i j _
    split at hp
    · rename_i hb hg
      split at hp
      · rename_i hle
        simp only [Option.some.injEq, Prod.mk.injEq] at hp
        obtain ⟨rfl, rfl, rfl⟩ := hp
        simp only [Bool.and_eq_true, Nat.beq_eq, Nat.ble_eq, ilt_eq, Bool.not_eq_true', decide_eq_true_eq, decide_eq_false_iff_not] at hb hle
        obtain ⟨⟨⟨rfl, hmay⟩, hn⟩, ⟨h1, h2⟩, h3⟩ := hb
        have h3' : ¬ ((n : Int) < j) := h3
        refine ⟨b, o, n, cp, _, i.toNat, j.toNat, ?_, hmay, hn, hg, hle, by omega, by omega, rfl, rfl, rfl⟩
        rw [Int.toNat_of_nonneg (by omega), Int.toNat_of_nonneg (by omega)]
      · cases hp
    · cases hp
  · cases hp
theorem del_prim {f : P} (hf : f.n = 101) (hx : ∃ fn, Try.prog.funcs[f.n]? = some fn ∧ (fn.name == "runtime.NumGoroutine") = false ∧ fn.body.isNone = false) : PrimOk Try.prog f 1 := by
  refine ⟨hx, fun wm vs nx h v nx' h' hp => ?_⟩
  obtain ⟨b, o, n, cp, l, i, j, rfl, hmay, hn, hg, hle, hij, hjn, rfl, rfl, rfl⟩ := primV1 hp
  clear hp
  refine ⟨?_, ⟨Nat.le_refl _, fun m hm hmn k hk => ?_, fun ht k hk => ?_⟩⟩
  · intro L N hi jj pv e a w R hnh args hargs
    cases hargs with
    | cons hv ht =>
      cases ht with
      | cons hv1 ht =>
      cases ht with
      | cons hv2 ht =>
      cases ht; cases hv1; cases hv2
      have hlt : b.n < nx.n := by
        rcases Nat.lt_or_ge b.n nx.n with h' | h'
        · exact h'
        · rw [R.top b h'] at hg; cases hg
      cases hv with
      | slO hjk => obtain ⟨_, hg', _⟩ := R.heap b _ hjk hlt; rw [hg] at hg'; cases hg'
      | slD _ hjk => have hg' : Tr.get? b h = some .dead := R.heap b _ hjk hlt; rw [hg] at hg'; cases hg'
      | slE _ hjk => obtain ⟨_, hg', _⟩ := R.heap b _ hjk hlt; rw [hg] at hg'; cases hg'
      | slA hjk hoff hcap hs he =>
        rename_i blk s c off cap
        obtain ⟨hlies, l', hg', hll, hcells⟩ := R.heap b _ hjk hlt
        rw [hg] at hg'; cases hg'
        have hso : off = s + o := hoff (.inl (by omega))
        subst hso
        obtain ⟨vs, g1, g2, g3⟩ := hcells.part o (n * 3) (by simp; omega)
        have key := del_walk blk (s + o) n cap i j vs w g2 g3 g1.ones (fun t ht => by rw [Nat.add_assoc]; exact hlies.free _ (by omega) (by omega)) hcap.1 hn hij hjn
        rw [hf]
        refine key.mono ?_
        rintro r w' ⟨rfl, rfl⟩
        have hzr : VRs jj (delZ (j - i)) (Builtin.zeroCells zC (n - (i + (n - j)))).toList := by
          rw [delZ_reps, show n - (i + (n - j)) = j - i by omega]
          exact zeroCells_reps (z := [.int .i64 0, .nils, .bool false]) (.cons (.int _ _) rfl (.cons .nils rfl (.cons (.bool _) rfl .nil))) _
        have hd : VRs jj ((l.drop (o + j * 3)).take ((n - j) * 3)) (vs.drop (j * 3)) := by
          have := g1.drop (j * 3)
          rw [List.drop_take, List.drop_drop, ← Nat.sub_mul] at this
          exact this
        have hcl := hd.append hzr
        have hll1 : ((l.drop (o + j * 3)).take ((n - j) * 3)).length = (n - j) * 3 := by rw [List.length_take, List.length_drop]; omega
        have hll2 : (delZ (j - i)).length = (j - i) * 3 := by rw [hzr.length, Array.length_toList, zeroCells_size, show n - (i + (n - j)) = j - i by omega]; rfl
        have hlen : ((l.drop (o + j * 3)).take ((n - j) * 3) ++ delZ (j - i)).length = (n - i) * 3 := by rw [List.length_append, hll1, hll2]; omega
        obtain ⟨R2, F2⟩ := (R.drew (w.drawn + 1)).at_store (o := o + i * 3) hnh hjk hlt hg hcl (by rw [hlen]; omega)
        rw [hlen, show o + i * 3 + (n - i) * 3 = o + n * 3 by omega, setCells_app, ← hd.length, hll1, show s + (o + i * 3) = s + o + i * 3 by omega, show s + o + i * 3 + (n - j) * 3 = s + o + (i + (n - j)) * 3 by omega] at R2
        rw [setCells_app, ← hd.length, hll1, show s + (o + i * 3) = s + o + i * 3 by omega, show s + o + i * 3 + (n - j) * 3 = s + o + (i + (n - j)) * 3 by omega] at F2
        refine ⟨_, jj, rfl, R2, (Fr.drew hi nx.n jj pv w _).trans F2 (Nat.le_refl _), ?_⟩
        rw [show n - (j - i) = i + (n - j) by omega]
        exact .slA hjk (fun _ => rfl) ⟨by have := hcap.1; omega, fun c h => by cases h⟩ hs he
  · have : k ≠ b := by
      rintro rfl
      subst hm
      have : Nat.ble m.n k.n = true := hmay
      rw [Nat.ble_eq] at this; omega
    exact Tr.get_set_ne this _ _
  · have : k ≠ b := by
      rintro rfl
      rw [ht k hk] at hg; cases hg
    rw [Tr.get_set_ne this]; exact ht k hk
end Go.Proofs.Ythdlkpmhjbaplaa.Dx
namespace Go.Proofs.Ythdlkpmhjbaplaa.Dx
open Go
theorem prim114 : PrimOk Try.prog p114 0 := sort_prim Try.sortL rfl ⟨Try.f114, Try.func114, by kernel_rfl, by kernel_rfl⟩
theorem prim101 : PrimOk Try.prog p101 1 := del_prim rfl ⟨Try.f101, Try.func101, by kernel_rfl, by kernel_rfl⟩
theorem c7 : chkFd Try.prog ls7 Try.f7 f7 = true := by kernel_rfl
theorem c43 : chkFd Try.prog ls43 Try.f43 f43 = true := by kernel_rfl
theorem c44 : chkFd Try.prog ls44 Try.f44 f44 = true := by kernel_rfl
theorem c45 : chkFd Try.prog ls45 Try.f45 f45 = true := by kernel_rfl
theorem c46 : chkFd Try.prog ls46 Try.f46 f46 = true := by kernel_rfl
theorem c47 : chkFd Try.prog ls47 Try.f47 f47 = true := by kernel_rfl
theorem c16 : chkFd Try.prog ls16 Try.f16 f16 = true := by kernel_rfl
theorem c15 : chkFd Try.prog ls15 Try.f15 f15 = true := by kernel_rfl
theorem c66 : chkFd Try.prog ls66 Try.f66 f66 = true := by kernel_rfl
theorem c80 : chkFd Try.prog ls80 Try.f80 f80 = true := by kernel_rfl
theorem c81 : chkFd Try.prog ls81 Try.f81 f81 = true := by kernel_rfl
theorem c79 : chkFd Try.prog ls79 Try.f79 f79 = true := by kernel_rfl
theorem c28 : chkFd Try.prog ls28 Try.f28 f28 = true := by kernel_rfl
theorem c49 : chkFd Try.prog ls49 Try.f49 f49 = true := by kernel_rfl
theorem c91 : chkFd Try.prog ls91 Try.f91 f91 = true := by kernel_rfl
theorem c98 : chkFd Try.prog ls98 Try.f98 f98 = true := by kernel_rfl
theorem c17 : chkFd Try.prog ls17 Try.f17 f17 = true := by kernel_rfl
theorem c99 : chkFd Try.prog ls99 Try.f99 f99 = true := by kernel_rfl
theorem c37 : chkFd Try.prog ls37 Try.f37 f37 = true := by kernel_rfl
theorem c100 : chkFd Try.prog ls100 Try.f100 f100 = true := by kernel_rfl
theorem c102 : chkFd Try.prog ls102 Try.f102 f102 = true := by kernel_rfl
theorem c103 : chkFd Try.prog ls103 Try.f103 f103 = true := by kernel_rfl
theorem c104 : chkFd Try.prog ls104 Try.f104 f104 = true := by kernel_rfl
theorem c105 : chkFd Try.prog ls105 Try.f105 f105 = true := by kernel_rfl
theorem c21 : chkFd Try.prog ls21 Try.f21 f21 = true := by kernel_rfl
theorem c25 : chkFd Try.prog ls25 Try.f25 f25 = true := by kernel_rfl
theorem c35 : chkFd Try.prog ls35 Try.f35 f35 = true := by kernel_rfl
theorem c69 : chkFd Try.prog ls69 Try.f69 f69 = true := by kernel_rfl
theorem c111 : chkFd Try.prog ls111 Try.f111 f111 = true := by kernel_rfl
theorem c112 : chkFd Try.prog ls112 Try.f112 f112 = true := by kernel_rfl
theorem c82 : chkFd Try.prog ls82 Try.f82 f82 = true := by kernel_rfl
theorem c50 : chkFd Try.prog ls50 Try.f50 f50 = true := by kernel_rfl
theorem c51 : chkFd Try.prog ls51 Try.f51 f51 = true := by kernel_rfl
theorem c64 : chkFd Try.prog ls64 Try.f64 f64 = true := by kernel_rfl
theorem c67 : chkFd Try.prog ls67 Try.f67 f67 = true := by kernel_rfl
theorem c77 : chkFd Try.prog ls77 Try.f77 f77 = true := by kernel_rfl
theorem c26 : chkFd Try.prog ls26 Try.f26 f26 = true := by kernel_rfl
theorem c78 : chkFd Try.prog ls78 Try.f78 f78 = true := by kernel_rfl
theorem c115 : chkFd Try.prog ls115 Try.f115 f115 = true := by kernel_rfl
theorem c116 : chkFd Try.prog ls116 Try.f116 f116 = true := by kernel_rfl
theorem c90 : chkFd Try.prog ls90 Try.f90 f90 = true := by kernel_rfl
theorem c53 : chkFd Try.prog ls53 Try.f53 f53 = true := by kernel_rfl
theorem c52 : chkFd Try.prog ls52 Try.f52 f52 = true := by kernel_rfl
theorem c54 : chkFd Try.prog ls54 Try.f54 f54 = true := by kernel_rfl
theorem c55 : chkFd Try.prog ls55 Try.f55 f55 = true := by kernel_rfl
theorem c59 : chkFd Try.prog ls59 Try.f59 f59 = true := by kernel_rfl
theorem c61 : chkFd Try.prog ls61 Try.f61 f61 = true := by kernel_rfl
theorem c60 : chkFd Try.prog ls60 Try.f60 f60 = true := by kernel_rfl
theorem c62 : chkFd Try.prog ls62 Try.f62 f62 = true := by kernel_rfl
theorem c63 : chkFd Try.prog ls63 Try.f63 f63 = true := by kernel_rfl
theorem c65 : chkFd Try.prog ls65 Try.f65 f65 = true := by kernel_rfl
theorem c117 : chkFd Try.prog ls117 Try.f117 f117 = true := by kernel_rfl
theorem c118 : chkFd Try.prog ls118 Try.f118 f118 = true := by kernel_rfl
theorem c119 : chkFd Try.prog ls119 Try.f119 f119 = true := by kernel_rfl
theorem c113 : chkFd Try.prog ls113 Try.f113 f113 = true := by kernel_rfl
theorem c106 : chkFd Try.prog ls106 Try.f106 f106 = true := by kernel_rfl
theorem c83 : chkFd Try.prog ls83 Try.f83 f83 = true := by kernel_rfl
theorem c85 : chkFd Try.prog ls85 Try.f85 f85 = true := by kernel_rfl
theorem c93 : chkFd Try.prog ls93 Try.f93 f93 = true := by kernel_rfl
theorem c92 : chkFd Try.prog ls92 Try.f92 f92 = true := by kernel_rfl
theorem c86 : chkFd Try.prog ls86 Try.f86 f86 = true := by kernel_rfl
theorem c95 : chkFd Try.prog ls95 Try.f95 f95 = true := by kernel_rfl
theorem c96 : chkFd Try.prog ls96 Try.f96 f96 = true := by kernel_rfl
theorem c97 : chkFd Try.prog ls97 Try.f97 f97 = true := by kernel_rfl
theorem c24 : chkFd Try.prog ls24 Try.f24 f24 = true := by kernel_rfl
theorem c84 : chkFd Try.prog ls84 Try.f84 f84 = true := by kernel_rfl
theorem c88 : chkFd Try.prog ls88 Try.f88 f88 = true := by kernel_rfl
theorem c89 : chkFd Try.prog ls89 Try.f89 f89 = true := by kernel_rfl
theorem c120 : chkFd Try.prog ls120 Try.f120 f120 = true := by kernel_rfl
theorem c108 : chkFd Try.prog ls108 Try.f108 f108 = true := by kernel_rfl
theorem c110 : chkFd Try.prog ls110 Try.f110 f110 = true := by kernel_rfl
theorem c109 : chkFd Try.prog ls109 Try.f109 f109 = true := by kernel_rfl
theorem c58 : chkFd Try.prog ls58 Try.f58 f58 = true := by kernel_rfl
theorem c107 : chkFd Try.prog ls107 Try.f107 f107 = true := by kernel_rfl
theorem c87 : chkFd Try.prog ls87 Try.f87 f87 = true := by kernel_rfl
theorem fOk : FOk Try.prog FT := FOk.of (by
  exact ⟨trivial, ⟨trivial, ⟨trivial, ⟨fok rfl Try.func7 c7, ⟨fok rfl Try.func15 c15, ⟨trivial, ⟨fok rfl Try.func63 c63, trivial, trivial⟩, ⟨fok rfl Try.func95 c95, trivial, trivial⟩⟩, ⟨fok rfl Try.func47 c47, ⟨fok rfl Try.func79 c79, trivial, trivial⟩, ⟨fok rfl Try.func111 c111, trivial, trivial⟩⟩⟩, ⟨trivial, ⟨trivial, trivial, ⟨fok rfl Try.func103 c103, trivial, trivial⟩⟩, ⟨fok rfl Try.func55 c55, ⟨fok rfl Try.func87 c87, trivial, trivial⟩, ⟨fok rfl Try.func119 c119, trivial, trivial⟩⟩⟩⟩, ⟨trivial, ⟨trivial, ⟨fok rfl Try.func35 c35, ⟨fok rfl Try.func67 c67, trivial, trivial⟩, ⟨fok rfl Try.func99 c99, trivial, trivial⟩⟩, ⟨fok rfl Try.func51 c51, ⟨fok rfl Try.func83 c83, trivial, trivial⟩, ⟨fok rfl Try.func115 c115, trivial, trivial⟩⟩⟩, ⟨trivial, ⟨fok rfl Try.func43 c43, trivial, ⟨fok rfl Try.func107 c107, trivial, trivial⟩⟩, ⟨fok rfl Try.func59 c59, ⟨fok rfl Try.func91 c91, trivial, trivial⟩, trivial⟩⟩⟩⟩, ⟨trivial, ⟨trivial, ⟨fok rfl Try.func17 c17, ⟨trivial, ⟨fok rfl Try.func65 c65, trivial, trivial⟩, ⟨fok rfl Try.func97 c97, trivial, trivial⟩⟩, ⟨fok rfl Try.func49 c49, ⟨fok rfl Try.func81 c81, trivial, trivial⟩, ⟨fok rfl Try.func113 c113, trivial, trivial⟩⟩⟩, ⟨fok rfl Try.func25 c25, ⟨trivial, trivial, ⟨fok rfl Try.func105 c105, trivial, trivial⟩⟩, ⟨trivial, ⟨fok rfl Try.func89 c89, trivial, trivial⟩, trivial⟩⟩⟩, ⟨trivial, ⟨fok rfl Try.func21 c21, ⟨fok rfl Try.func37 c37, ⟨fok rfl Try.func69 c69, trivial, trivial⟩, ⟨prim101, trivial, trivial⟩⟩, ⟨fok rfl Try.func53 c53, ⟨fok rfl Try.func85 c85, trivial, trivial⟩, ⟨fok rfl Try.func117 c117, trivial, trivial⟩⟩⟩, ⟨trivial, ⟨fok rfl Try.func45 c45, ⟨fok rfl Try.func77 c77, trivial, trivial⟩, ⟨fok rfl Try.func109 c109, trivial, trivial⟩⟩, ⟨fok rfl Try.func61 c61, ⟨fok rfl Try.func93 c93, trivial, trivial⟩, trivial⟩⟩⟩⟩⟩, ⟨trivial, ⟨trivial, ⟨trivial, ⟨fok rfl Try.func16 c16, ⟨trivial, ⟨fok rfl Try.func64 c64, trivial, trivial⟩, ⟨fok rfl Try.func96 c96, trivial, trivial⟩⟩, ⟨trivial, ⟨fok rfl Try.func80 c80, trivial, trivial⟩, ⟨fok rfl Try.func112 c112, trivial, trivial⟩⟩⟩, ⟨fok rfl Try.func24 c24, ⟨trivial, trivial, ⟨fok rfl Try.func104 c104, trivial, trivial⟩⟩, ⟨trivial, ⟨fok rfl Try.func88 c88, trivial, trivial⟩, ⟨fok rfl Try.func120 c120, trivial, trivial⟩⟩⟩⟩, ⟨trivial, ⟨trivial, ⟨trivial, trivial, ⟨fok rfl Try.func100 c100, trivial, trivial⟩⟩, ⟨fok rfl Try.func52 c52, ⟨fok rfl Try.func84 c84, trivial, trivial⟩, ⟨fok rfl Try.func116 c116, trivial, trivial⟩⟩⟩, ⟨fok rfl Try.func28 c28, ⟨fok rfl Try.func44 c44, trivial, ⟨fok rfl Try.func108 c108, trivial, trivial⟩⟩, ⟨fok rfl Try.func60 c60, ⟨fok rfl Try.func92 c92, trivial, trivial⟩, trivial⟩⟩⟩⟩, ⟨trivial, ⟨trivial, ⟨trivial, ⟨trivial, ⟨fok rfl Try.func66 c66, trivial, trivial⟩, ⟨fok rfl Try.func98 c98, trivial, trivial⟩⟩, ⟨fok rfl Try.func50 c50, ⟨fok rfl Try.func82 c82, trivial, trivial⟩, ⟨prim114, trivial, trivial⟩⟩⟩, ⟨fok rfl Try.func26 c26, ⟨trivial, trivial, ⟨fok rfl Try.func106 c106, trivial, trivial⟩⟩, ⟨fok rfl Try.func58 c58, ⟨fok rfl Try.func90 c90, trivial, trivial⟩, trivial⟩⟩⟩, ⟨trivial, ⟨trivial, ⟨trivial, trivial, ⟨fok rfl Try.func102 c102, trivial, trivial⟩⟩, ⟨fok rfl Try.func54 c54, ⟨fok rfl Try.func86 c86, trivial, trivial⟩, ⟨fok rfl Try.func118 c118, trivial, trivial⟩⟩⟩, ⟨trivial, ⟨fok rfl Try.func46 c46, ⟨fok rfl Try.func78 c78, trivial, trivial⟩, ⟨fok rfl Try.func110 c110, trivial, trivial⟩⟩, ⟨fok rfl Try.func62 c62, trivial, trivial⟩⟩⟩⟩⟩⟩)
theorem mixed : Try.prog.follows .mixedOrders = true := by kernel_rfl
end Go.Proofs.Ythdlkpmhjbaplaa.Dx
namespace Go.Proofs.Ythdlkpmhjbaplaa.Dx
open Go Go.ChangeShapes Go.WideShapes
theorem encM_flat : ∀ l : List Mono, encM l = l.flatMap fun m => [.int .i64 m.v, .int .i64 m.k]
  | [] => rfl
  | m :: l => by rw [List.flatMap_cons, ← encM_flat l]; rfl
theorem encC_flat : ∀ l : List Cons, encC l = l.flatMap cC
  | [] => rfl
  | m :: l => by rw [List.flatMap_cons, ← encC_flat l]; rfl
def okI (n : Int) : Prop := -9223372036854775808 ≤ n ∧ n ≤ 9223372036854775807
theorem okI_wf {n : Int} (h : (Lit.int .i64 n).wf = true) : okI n := by simpa [Lit.wf, IntKind.min, IntKind.max, IntKind.signed, IntKind.bits, okI] using h
def okMono (m : Mono) : Prop := okI m.v ∧ okI m.k
def okMonos (l : List Mono) : Prop := l.length ≤ maxLen ∧ ∀ x ∈ l, okMono x
def okTerm (t : Term) : Prop := okI t.c ∧ okMonos t.l
def okCon (x : Cons) : Prop := okTerm x.t
def okCons (l : List Cons) : Prop := l.length ≤ maxLen ∧ ∀ x ∈ l, okCon x
theorem cells29 : Try.prog.cellsOf 29 = 2 := by kernel_rfl
theorem cells3 : Try.prog.cellsOf 3 = 1 := by kernel_rfl
theorem cells4 : Try.prog.cellsOf 4 = 1 := by kernel_rfl
theorem cells27 : Try.prog.cellsOf 27 = 1 := by kernel_rfl
theorem cells31 : Try.prog.cellsOf 31 = 3 := by kernel_rfl
theorem cells33 : Try.prog.cellsOf 33 = 2 := by kernel_rfl
section
variable {H : Type} {enc : TypeId × Value → H} {w : World}
theorem rd3 : RdOk enc Try.prog w 3 1 (fun n : Int => [.int .i64 n]) okI := (RdOk.int Try.underlying3).map id (fun _ => rfl) (fun _ h => okI_wf h)
theorem rd33 : RdOk enc Try.prog w 33 2 (fun m : Mono => [.int .i64 m.v, .int .i64 m.k]) okMono :=
  (RdOk.pair Try.underlying33 rd3 rd3 rfl rfl cells3 cells3 cells33).map (fun x : Int × Int => (⟨x.1, x.2⟩ : Mono)) (fun _ => rfl) (fun _ h => h)
theorem rd27 (hw : 0 < w.heap.size) : RdOk enc Try.prog w 27 1 (fun l : List Mono => [vMs l]) okMonos :=
  (RdOk.slice Try.underlying27 rd33 cells33 (by decide) hw).map id (fun l => by unfold vMs; rw [encM_flat]; rfl) (fun _ h => h)
theorem rd29 (hw : 0 < w.heap.size) : RdOk enc Try.prog w 29 2 (fun t : Term => cT t) okTerm :=
  (RdOk.pair Try.underlying29 rd3 (rd27 hw) rfl rfl cells3 cells27 cells29).map (fun x : Int × List Mono => (⟨x.1, x.2⟩ : Term)) (fun _ => rfl) (fun _ h => h)
theorem rd31 (hw : 0 < w.heap.size) : RdOk enc Try.prog w 31 3 (fun x : Cons => cC x) okCon :=
  (RdOk.pair Try.underlying31 (rd29 hw) (RdOk.bool Try.underlying4) rfl rfl cells29 cells4 cells31).map (fun x : Term × Bool => (⟨x.1, x.2⟩ : Cons)) (fun _ => rfl) (fun _ h => h.1)
theorem rd22 (hw : 0 < w.heap.size) : RdOk enc Try.prog w 22 1 (fun l : List Cons => [vCs l]) okCons :=
  (RdOk.slice Try.underlying22 (rd31 hw) cells31 (by decide) hw).map id (fun l => by unfold vCs; rw [encC_flat]; rfl) (fun _ h => h)
def Arg1 (w : World) (v' : Value) {α : Type} (V : α → VV) (ok : α → Prop) : Prop :=
  ∃ a : α, ok a ∧ ∀ s, LayOk w s → ∃ s' d, LayOk w s' ∧ LayLe s s' ∧ VR s'.j d v' ∧ XRs s'.Z s'.h none [V a] [d]
def ArgsL (w : World) (vs : List Value) (args : List VV) : Prop := ∀ s, LayOk w s → ∃ s' ds, LayOk w s' ∧ LayLe s s' ∧ VRt s'.j ds vs ∧ XRs s'.Z s'.h none args ds
theorem ArgsL.nil : ArgsL w [] [] := fun s hs => ⟨s, [], hs, LayLe.refl s, .nil, .nil⟩
theorem ArgsL.cons {v' : Value} {v : VV} {vs : List Value} {args : List VV} (h : ∀ s, LayOk w s → ∃ s' d, LayOk w s' ∧ LayLe s s' ∧ VR s'.j d v' ∧ XRs s'.Z s'.h none [v] [d]) (t : ArgsL w vs args) : ArgsL w (v' :: vs) (v :: args) := by
  intro s hs
  obtain ⟨s1, d, a1, a2, a3, a4⟩ := h s hs
  obtain ⟨s2, ds, b1, b2, b3, b4⟩ := t s1 a1
  exact ⟨s2, d :: ds, b1, a2.trans b2, .cons (a3.mono b2.ext) b3, (b2.xrs a4).append b4⟩
theorem arg_int {n : Int} : ∀ s, LayOk w s → ∃ s' d, LayOk w s' ∧ LayLe s s' ∧ VR s'.j d (.int .i64 n) ∧ XRs s'.Z s'.h none [.int .i64 n] [d] := fun s hs => ⟨s, .int .i64 n, hs, LayLe.refl s, .int _ _, .cons (.int _ _) .nil⟩
theorem arg_slice {t e : TypeId} {α : Type} {V : α → VV} {ok : α → Prop} (ht : Try.prog.underlying t = some (.slice e)) (R : RdOk enc Try.prog w t 1 (fun a => [V a]) ok) {r : Reach} {base : Nat} {v : Value} (hval : Value.okWide Try.prog w r base t v) {d : DataW H} {ps : List MemPlace}
    (hd : DataW.Trod enc Try.prog w 0 (fun _ => true) true t v d ps) : Arg1 w v V ok := by
  obtain ⟨fuel, hf⟩ := hd
  have hv : ∃ a n c, v = .slice a n c := by
    unfold Value.okWide at hval
    rw [ht] at hval
    simp only [] at hval
    unfold Cell.okWide at hval
    rw [ht] at hval
    split at hval <;> simp_all [Cell.ok]
    split at hval <;> simp_all
  obtain ⟨a, n, c, rfl⟩ := hv
  obtain ⟨x, hx, X⟩ := R _ _ _ hf
  refine ⟨x, hx, fun s hs => ?_⟩
  obtain ⟨s', ds, h1, h2, h3, h4, h5⟩ := X s hs
  have h3' : VRs s'.j ds [.slice a n c] := h3
  cases h3' with
  | cons g1 g2 g3 => cases g3; exact ⟨s', _, h1, h2, g1, h5⟩
end
theorem some_heap : decide (Try.prog.globals.size < (begin Try.prog (fun _ _ => 0) default).world.heap.size) = true := by kernel_rfl
theorem heap_pos {w : World} (h : w.ShapedOpen Try.prog) : 0 < w.heap.size := by
  have h2 := h.2 Try.prog.globals.size (Nat.le_refl _) (of_decide_eq_true some_heap)
  obtain ⟨o, _, h3, _⟩ := h2
  have := (Array.getElem?_eq_some_iff.1 h3).1
  omega
theorem kids : Kids Try.prog (· < Try.prog.types.size) := kids_rows (by kernel_rfl) (by kernel_rfl)
theorem slices_full : ∀ t e, t < Try.prog.types.size → Try.prog.underlying t = some (.slice e) → 0 < Try.prog.cellsOf e := slices_full_of Try.prog (by kernel_rfl)
end Go.Proofs.Ythdlkpmhjbaplaa.Dx
