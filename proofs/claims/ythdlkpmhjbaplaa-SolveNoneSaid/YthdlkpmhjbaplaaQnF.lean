/- A part of the proof of None: a small machine, what its functions come to, plain laws. No statement of this seat is proved here. -/
import Derived.Test.YthdlkpmhjbaplaaQnE
import Derived.ChangeSame
import Derived.ChangeArms
import Derived.ReadAgain
import Derived.RowKit
import Derived.Shelf.SlGeneric
import Derived.Shelf.SortM.Plain
import Derived.Test.YthdlkpmhjbaplaaProg
import Derived.Shelf.SortM.SortNone
import Derived.Lib.SlicesCompact
import Derived.WalkKit
import Derived.Deep.RegionLaw
import Derived.Deep.LoopGhost
import Derived.Shelf.RegionOpenPlain
import Derived.Lib.SliceRun
import Derived.KernelRfl
import Derived.HandedShaped
set_option autoImplicit false
set_option linter.unusedSimpArgs false
set_option linter.unusedVariables false
set_option linter.unnecessarySimpa false
set_option linter.constructorNameAsVariable false
set_option maxRecDepth 100000
namespace Go.Proofs.Ythdlkpmhjbaplaa.Dx
open Go Go.ChangeShapes Go.WideShapes
structure Lay where
  nx : P
  h : Hp
  j : J
structure LayOk (w : World) (s : Lay) : Prop where
  ro : ∀ k i, s.j k = some i → k.n < s.nx.n ∧ ∃ b q l, i = .ro b q ∧ Tr.get? k s.h = some (.ro l) ∧ b < w.heap.size ∧ CellsAt s.j w b q l
  top : ∀ k : P, s.nx.n ≤ k.n → Tr.get? k s.h = none
structure LayLe (s s' : Lay) : Prop where
  nx : s.nx.n ≤ s'.nx.n
  j : ∀ k i, s.j k = some i → s'.j k = some i
  h : ∀ k : P, k.n < s.nx.n → Tr.get? k s'.h = Tr.get? k s.h
def Lay.Z (s : Lay) : P → Prop := fun k => k.n < s.nx.n
theorem LayLe.refl (s : Lay) : LayLe s s := ⟨Nat.le_refl _, fun _ _ h => h, fun _ _ => rfl⟩
theorem LayLe.trans {a b c : Lay} (x : LayLe a b) (y : LayLe b c) : LayLe a c := ⟨Nat.le_trans x.nx y.nx, fun k i h => y.j k i (x.j k i h), fun k h => (y.h k (Nat.lt_of_lt_of_le h x.nx)).trans (x.h k h)⟩
theorem LayLe.ext {a b : Lay} (x : LayLe a b) : Ext a.j b.j := fun k i h => .inl (x.j k i h)
theorem LayLe.xrs {a b : Lay} (x : LayLe a b) {l : List VV} {d : List DV} (r : XRs a.Z a.h none l d) : XRs b.Z b.h none l d :=
  XRs.mono (fun k h => Nat.lt_of_lt_of_le h x.nx) (fun k h => objAt_of (x.h k h)) (MLe.refl _) r
section
variable {H : Type} (enc : TypeId × Value → H) (P : Program) (w : World)
def RdOk (t : TypeId) (sz : Nat) {α : Type} (E : α → List VV) (ok : α → Prop) : Prop :=
  ∀ (fuel : Nat) (cs : List Value) (x : DataW H × List MemPlace), DataW.trod enc P w 0 (fun _ => true) true fuel t cs = some x →
    ∃ a : α, ok a ∧ ∀ s, LayOk w s → ∃ s' ds, LayOk w s' ∧ LayLe s s' ∧ VRs s'.j ds cs ∧ ds.length = sz ∧ XRs s'.Z s'.h none (E a) ds
variable {enc P w}
theorem RdOk.map {t : TypeId} {sz : Nat} {α β : Type} {E : α → List VV} {ok : α → Prop} {E' : β → List VV} {ok' : β → Prop} (R : RdOk enc P w t sz E ok) (f : α → β) (hE : ∀ a, E' (f a) = E a) (ho : ∀ a, ok a → ok' (f a)) : RdOk enc P w t sz E' ok' := by
  intro fuel cs x hx
  obtain ⟨a, h1, h2⟩ := R fuel cs x hx
  refine ⟨f a, ho a h1, ?_⟩
  rw [hE]; exact h2
theorem RdOk.int {t : TypeId} {k : IntKind} (ht : P.underlying t = some (.int k)) : RdOk enc P w t 1 (fun n : Int => [.int k n]) (fun n => (Lit.int k n).wf = true) := by
  intro fuel cs x hx
  obtain ⟨n, rfl, rfl, hw⟩ := DataW.trod_int ht hx
  exact ⟨n, hw, fun s hs => ⟨s, [.int k n], hs, LayLe.refl s, .cons (.int k n) rfl .nil, rfl, .cons (.int k n) .nil⟩⟩
theorem RdOk.bool {t : TypeId} (ht : P.underlying t = some .bool) : RdOk enc P w t 1 (fun b : Bool => [.bool b]) (fun _ => True) := by
  intro fuel cs x hx
  obtain ⟨b, rfl, rfl⟩ := DataW.trod_bool ht hx
  exact ⟨b, trivial, fun s hs => ⟨s, [.bool b], hs, LayLe.refl s, .cons (.bool b) rfl .nil, rfl, .cons (.bool b) .nil⟩⟩
theorem RdOk.pair {t : TypeId} {f0 f1 : Field} {s0 s1 : Nat} {α β : Type} {E0 : α → List VV} {E1 : β → List VV} {ok0 : α → Prop} {ok1 : β → Prop} (ht : P.underlying t = some (.struct #[f0, f1]))
    (R0 : RdOk enc P w f0.type s0 E0 ok0) (R1 : RdOk enc P w f1.type s1 E1 ok1) (h0 : f0.offset = 0) (h1 : f1.offset = s0) (c0 : P.cellsOf f0.type = s0) (c1 : P.cellsOf f1.type = s1) (ct : P.cellsOf t = s0 + s1) :
    RdOk enc P w t (s0 + s1) (fun x : α × β => E0 x.1 ++ E1 x.2) (fun x => ok0 x.1 ∧ ok1 x.2) := by
  intro fuel cs x hx
  obtain ⟨y0, y1, n, rfl, hl, hr0, hr1⟩ := trod_struct2 ht hx
  rw [h0, c0, List.drop_zero] at hr0
  rw [h1, c1] at hr1
  obtain ⟨a, ha, A⟩ := R0 _ _ _ hr0
  obtain ⟨b, hb, B⟩ := R1 _ _ _ hr1
  refine ⟨(a, b), ⟨ha, hb⟩, fun s hs => ?_⟩
  obtain ⟨sa, da, a1, a2, a3, a4, a5⟩ := A s hs
  obtain ⟨sb, db, b1, b2, b3, b4, b5⟩ := B sa a1
  refine ⟨sb, da ++ db, b1, a2.trans b2, ?_, by simp [a4, b4], (b2.xrs a5).append b5⟩
  have e : cs = cs.take s0 ++ (cs.drop s0).take s1 := by
    have : (cs.drop s0).take s1 = cs.drop s0 := List.take_of_length_le (by simp; omega)
    rw [this, List.take_append_drop]
  rw [e]
  exact (a3.mono b2.ext).append b3
theorem cell_add {a : Addr} {m q : Nat} {v : Value} (h : w.cell? ((a.add m).add q) = some v) : w.cell? ⟨a.block, a.off + (m + q), none⟩ = some v := by
  have hs : ((a.add m).add q).spot = none := by
    cases hsp : ((a.add m).add q).spot with
    | none => rfl
    | some s =>
      simp only [World.cell?] at h
      split at h
      · simp [hsp] at h
      · cases h
  have e : (a.add m).add q = ⟨a.block, a.off + (m + q), none⟩ := by
    have e1 : ((a.add m).add q).block = a.block := by unfold Addr.add; split <;> split <;> rfl
    have e2 : ((a.add m).add q).off = a.off + (m + q) := by unfold Addr.add; split <;> split <;> simp_all [Nat.add_assoc]
    rw [← e1, ← e2, ← hs]
  rw [e] at h; exact h
theorem spot_none {a : Addr} {v : Value} (h : w.cell? ((a.add 0).add 0) = some v) : a = ⟨a.block, a.off, none⟩ := by
  have e : (a.add 0).add 0 = a := by simp [Addr.add]
  rw [e] at h
  have hs : a.spot = none := by
    cases hsp : a.spot with
    | none => rfl
    | some s =>
      simp only [World.cell?] at h
      split at h
      · simp [hsp] at h
      · cases h
  rw [← hs]
theorem cells_get {a : Addr} {n : Nat} {cs : List Value} (h : w.cells? 0 a n = some cs) : cs.length = n ∧ ∀ (q : Nat) (v : Value), cs[q]? = some v → w.cell? (a.add q) = some v := by
  unfold World.cells? at h
  rw [if_pos (Nat.zero_le _)] at h
  have hl : cs.length = n := by simpa using mapM_some_length h
  refine ⟨hl, fun q v hv => ?_⟩
  have hq : q < n := by
    have := (List.getElem?_eq_some_iff.1 hv).1; omega
  rw [mapM_some_get h q q (by simp [hq]), hv]
theorem RdOk.elems {e : TypeId} {sz : Nat} {α : Type} {E : α → List VV} {ok : α → Prop} (R : RdOk enc P w e sz E ok) {a : Addr} {fuel : Nat} {len : Nat} {elems : List (DataW H × List MemPlace)} (hlen : elems.length = len)
    (hr : ∀ i, i < len → (w.cells? 0 (a.add (i * sz)) sz).bind (DataW.trod enc P w 0 (fun _ => true) true fuel e) = elems[i]?) :
    ∀ m, m ≤ len → ∃ (l : List α) (css : List Value), l.length = m ∧ (∀ x ∈ l, ok x) ∧ css.length = m * sz ∧ (∀ (i : Nat) (v : Value), css[i]? = some v → w.cell? ⟨a.block, a.off + i, none⟩ = some v) ∧ (0 < m → 0 < sz → a = ⟨a.block, a.off, none⟩) ∧
      ∀ s, LayOk w s → ∃ s' ds, LayOk w s' ∧ LayLe s s' ∧ VRs s'.j ds css ∧ ds.length = m * sz ∧ XRs s'.Z s'.h none (l.flatMap E) ds
  | 0, _ => ⟨[], [], rfl, by simp, by simp, by simp, fun h => absurd h (by omega), fun s hs => ⟨s, [], hs, LayLe.refl s, .nil, by simp, .nil⟩⟩
  | m + 1, hm => by
    obtain ⟨l, css, h1, h2, h3, h4, h5, h6⟩ := RdOk.elems R hlen hr m (by omega)
    have hx := hr m (by omega)
    rw [List.getElem?_eq_getElem (by omega)] at hx
    obtain ⟨cs, hc, hy⟩ := Option.bind_eq_some_iff.1 hx
    obtain ⟨hcl, hcg⟩ := cells_get hc
    obtain ⟨x, hxo, X⟩ := R _ _ _ hy
    refine ⟨l ++ [x], css ++ cs, by simp [h1], ?_, by simp [h3, hcl, Nat.add_mul], ?_, ?_, ?_⟩
    · intro y hy
      rcases List.mem_append.1 hy with hy | hy
      · exact h2 y hy
      · simp at hy; subst hy; exact hxo
    · intro i v hv
      by_cases hi : i < m * sz
      · rw [List.getElem?_append_left (by omega)] at hv; exact h4 i v hv
      · rw [List.getElem?_append_right (by omega)] at hv
        have := cell_add (hcg _ _ hv)
        rw [show a.off + (m * sz + (i - css.length)) = a.off + i by omega] at this
        exact this
    · intro _ hs
      by_cases h0 : 0 < m
      · exact h5 h0 hs
      · obtain rfl : m = 0 := by omega
        have hv : cs[0]? = some cs[0] := List.getElem?_eq_getElem (by omega)
        have := hcg 0 _ hv
        rw [Nat.zero_mul] at this
        exact spot_none this
    · intro s hs
      obtain ⟨s1, d1, a1, a2, a3, a4, a5⟩ := h6 s hs
      obtain ⟨s2, d2, b1, b2, b3, b4, b5⟩ := X s1 a1
      refine ⟨s2, d1 ++ d2, b1, a2.trans b2, (a3.mono b2.ext).append b3, by simp [a4, b4, Nat.add_mul], ?_⟩
      rw [List.flatMap_append, List.flatMap_cons, List.flatMap_nil, List.append_nil]
      exact (b2.xrs a5).append b5
theorem LayOk.push {s : Lay} (hs : LayOk w s) {b q : Nat} {ds : List DV} (hb : b < w.heap.size) (hc : CellsAt s.j w b q ds) :
    LayOk w ⟨s.nx.suc, Tr.set s.nx s.h (some (.ro ds)), s.j.put s.nx (.ro b q)⟩ ∧ LayLe s ⟨s.nx.suc, Tr.set s.nx s.h (some (.ro ds)), s.j.put s.nx (.ro b q)⟩ := by
  have hnone : s.j s.nx = none := by
    cases hj : s.j s.nx with
    | none => rfl
    | some i => exact absurd (hs.ro _ _ hj).1 (Nat.lt_irrefl _)
  have ne : ∀ k : Dx.P, k.n < s.nx.n → k ≠ s.nx := fun k hk e => by rw [e] at hk; exact Nat.lt_irrefl _ hk
  have le : LayLe s ⟨s.nx.suc, Tr.set s.nx s.h (some (.ro ds)), s.j.put s.nx (.ro b q)⟩ := by
    refine ⟨by rw [Dx.P.n_suc]; omega, fun k i h => ?_, fun k hk => ?_⟩
    · show (s.j.put s.nx (.ro b q)) k = some i
      rw [J.put_ne _ (ne k (hs.ro k i h).1)]; exact h
    · show Tr.get? k (Tr.set s.nx s.h (some (.ro ds))) = _
      rw [Tr.get_set, if_neg (ne k hk)]
  refine ⟨⟨fun k i hk => ?_, fun k hk => ?_⟩, le⟩
  · by_cases e : k = s.nx
    · subst e
      have hk' : i = .ro b q := by
        have := J.put_self s.j s.nx (.ro b q)
        exact (Option.some.inj (hk.symm.trans this))
      exact ⟨by rw [Dx.P.n_suc]; omega, b, q, ds, hk', by rw [Tr.get_set, if_pos rfl], hb, hc.mono le.ext⟩
    · have hk' : s.j k = some i := by
        have := J.put_ne s.j e (.ro b q)
        exact this.symm.trans hk
      obtain ⟨g1, b', q', l', g2, g3, g4, g5⟩ := hs.ro k i hk'
      exact ⟨by rw [Dx.P.n_suc]; omega, b', q', l', g2, by rw [Tr.get_set, if_neg e]; exact g3, g4, g5.mono le.ext⟩
  · rw [Dx.P.n_suc] at hk
    have e : k ≠ s.nx := by intro e; subst e; omega
    rw [Tr.get_set, if_neg e]; exact hs.top k (by omega)
theorem RdOk.slice {t e : TypeId} {sz : Nat} {α : Type} {E : α → List VV} {ok : α → Prop} (ht : P.underlying t = some (.slice e)) (R : RdOk enc P w e sz E ok) (hsz : P.cellsOf e = sz) (hp : 0 < sz) (hw : 0 < w.heap.size) :
    RdOk enc P w t 1 (fun l : List α => [.fz l.length none sz (l.flatMap E)]) (fun l => l.length ≤ maxLen ∧ ∀ x ∈ l, ok x) := by
  intro fuel cs x hx
  rcases DataW.trod_slice ht hx with ⟨rfl, rfl⟩ | ⟨a, len, cap, elems, rest, n, rfl, rfl, rfl, hb, hle, hmax, hlen, hr, _, _⟩
  · exact ⟨[], ⟨by simp, by simp⟩, fun s hs => ⟨s, [.nils], hs, LayLe.refl s, .cons .nils rfl .nil, rfl, .cons (.fz0 (.inl rfl)) .nil⟩⟩
  · rw [hsz] at hr
    obtain ⟨l, css, h1, h2, h3, h4, h5, h6⟩ := R.elems hlen hr len (Nat.le_refl _)
    refine ⟨l, ⟨by omega, h2⟩, fun s hs => ?_⟩
    obtain ⟨s1, d1, a1, a2, a3, a4, a5⟩ := h6 s hs
    have hone : ∀ (b q : Nat), b < w.heap.size → CellsAt s1.j w b q d1 → (∀ j' : J, j' s1.nx = some (.ro b q) → VR j' (.sl s1.nx 0 len none sz) (.slice (some a) len cap)) →
        ∃ s' ds, LayOk w s' ∧ LayLe s s' ∧ VRs s'.j ds [.slice (some a) len cap] ∧ ds.length = 1 ∧ XRs s'.Z s'.h none [.fz l.length none sz (l.flatMap E)] ds := by
      intro b q hb' hc hv
      obtain ⟨k1, k2⟩ := a1.push hb' hc
      refine ⟨_, [.sl s1.nx 0 len none sz], k1, a2.trans k2, .cons (hv _ (J.put_self _ _ _)) rfl .nil, rfl, .cons ?_ .nil⟩
      have hx := k2.xrs a5
      have hlen2 : (l.flatMap E).length = len * sz := by rw [← a4]; exact a5.length
      rw [h1]
      refine .fz (cells := d1) hlen2 (show s1.nx.n < (s1.nx.suc).n by rw [Dx.P.n_suc]; omega) (by unfold objAt; rw [Tr.get_set, if_pos rfl]) (by omega) ?_ (fun x h => by cases h) (fun x h => by cases h)
      rw [List.drop_zero, List.take_of_length_le (by omega)]
      exact hx
    by_cases h0 : 0 < len
    · have ha := h5 h0 hp
      have hcell : CellsAt s1.j w a.block a.off d1 := by
        intro i v hv
        obtain ⟨v', g1, g2, g3⟩ := a3.get i v hv
        exact ⟨v', h4 i v' g1, g2, g3⟩
      have hbl : a.block < w.heap.size := by
        have hpos : 0 < css.length := by rw [h3]; exact Nat.mul_pos h0 hp
        have hv : css[0]? = some css[0] := List.getElem?_eq_getElem hpos
        have := h4 0 _ hv
        unfold World.cell? at this
        cases hh : w.heap[a.block]? with
        | none => simp only [hh, reduceCtorEq] at this
        | some o => exact (Array.getElem?_eq_some_iff.1 hh).1
      refine hone a.block a.off hbl hcell fun j' hj => ?_
      rw [ha]
      exact VR.slO hj (fun _ => rfl) ⟨hle, fun c h => by cases h⟩
    · obtain rfl : len = 0 := by omega
      have hd : d1 = [] := List.eq_nil_of_length_eq_zero (by rw [a4]; omega)
      subst hd
      refine hone 0 0 hw (fun i v hv => by simp at hv) fun j' hj => VR.slE a hj ⟨hle, fun c h => by cases h⟩ (fun c h => by cases h)
end
def Lay.nil : Lay := ⟨.z, .nl, fun _ => none⟩
theorem Lay.nil_ok (w : World) : LayOk w Lay.nil := ⟨fun k i h => (nomatch h), fun k _ => Tr.get_e k⟩
theorem law_calls {Pr : Program} {F : Tr Fd} (hF : FOk Pr F) (hm : Pr.follows .mixedOrders = true) {f : P} {args : List VV} (H : VPure F f args (.bool true)) {w : World} {s : Lay} (hs : LayOk w s) {ds : List DV} {vs : List Value}
    (hv : VRt s.j ds vs) (hx : XRs s.Z s.h none args ds) : Calls Pr f.n vs.toArray w fun r w' => r = .returned (.bool true) ∧ GrownO w w' ∧ ∀ i, i < w.heap.size → w'.heap[i]? = w.heap[i]? := by
  have hH : HpR ⟨none, none, s.nx, s.h, s.Z, fun _ => False⟩ 0 0 [] s.nx s.h ⟨s.Z, fun _ => none⟩ := {
    blk := fun k o h => by simp [hget] at h
    own := fun k o r b q h => by simp [hget] at h
    inj := fun k k' o o' r r' b q q' h => by simp [hget] at h
    zlt := fun b h => h
    zold := fun b h => .inl h
    top := hs.top
    keep := fun b _ _ => rfl
    le := Nat.le_refl _
    wm := fun m h => (nomatch h)
    wf := fun m h => (nomatch h) }
  obtain ⟨r, nx', h', x, dnx', dh', g', ⟨fuel, hrun⟩, _, hxr, _, rfl⟩ := H _ s.nx s.h ⟨s.Z, fun _ => none⟩ ds rfl hH hx.none_any
  cases hxr
  have hr := hrun fuel (Nat.le_refl _) .nl okV
  obtain ⟨v1, nx1, h1, hk, hcall, _⟩ := call_sim hF (exec_sound hF hm fuel) (show callK F (exec F fuel) none f ds .nl s.nx s.h okV = .ok .norm (.nd (some (.bool true)) .nl .nl) dnx' dh' from hr)
  change Res.ok .norm (.nd (some v1) .nl .nl) nx1 h1 = _ at hk
  cases hk
  have R : Rel (fun _ => False) 0 dnx'.n s.j (fun _ => none) .nl s.nx s.h { tmps := #[], defers := [] } w := {
    fresh := fun k i h => .inl (hs.ro k i h).1
    heap := fun k i h _ => by
      obtain ⟨_, b, q, l, rfl, g2, g3, g4⟩ := hs.ro k i h
      exact ⟨l, g2, g3, g4⟩
    inj := fun k k' b q c q' c' h => by obtain ⟨_, _, _, _, e, _⟩ := hs.ro k _ h; cases e
    inr := fun k k' b q c q' h => by obtain ⟨_, _, _, _, e, _⟩ := hs.ro k _ h; cases e
    env := fun p v h => by rw [Tr.get_e] at h; cases h
    pvv := fun p b h => nomatch h
    pin := fun p q b h => nomatch h
    pfr := fun p b h => nomatch h
    pfo := fun p b h => nomatch h
    loc := fun p l h => by rw [Tr.get_e] at h; cases h
    size := rfl
    lt := fun k b q c h => by obtain ⟨_, _, _, _, e, _⟩ := hs.ro k _ h; cases e
    lr := fun k b q h => by obtain ⟨_, _, _, _, e, _, g, _⟩ := hs.ro k _ h; cases e; exact g
    top := hs.top }
  refine (hcall _ _ dnx'.n _ _ _ { tmps := #[], defers := [] } w R (Nat.le_refl _) vs hv).mono ?_
  rintro r w' ⟨v', j', rfl, R', F', hv⟩
  cases hv
  have same : ∀ i, i < w.heap.size → w'.heap[i]? = w.heap[i]? := fun i hi => F'.same i hi (fun k q c h => by obtain ⟨_, _, _, _, e, _⟩ := hs.ro k _ h; cases e) (fun p h => nomatch h)
  refine ⟨rfl, ⟨⟨F'.os, F'.output, fun i hi => ?_⟩, F'.froz, F'.size⟩, same⟩
  rw [same i hi]
  cases w.heap[i]? with
  | none => rfl
  | some ob => cases ob <;> simp
theorem stays {H : Type} {enc : TypeId × Value → H} {P : Program} {T : TypeId → Prop} (K : Kids P T) (hz : ∀ t e, T t → P.underlying t = some (.slice e) → 0 < P.cellsOf e) {W W' : World} {sp : Nat → Bool} :
    ∀ {ts : List TypeId} {vs : List Value} {ds : List (DataW H)} {ps : List MemPlace}, (∀ t ∈ ts, T t) → DataW.TrodAll enc P W 0 (fun _ => true) true ts vs ds ps → (∀ p ∈ ps, W.sameAt W' p) → (∀ p ∈ ps, sp p.block = true) → DataW.TrodAll enc P W' 0 sp true ts vs ds ps
  | [], [], [], _, _, h, _, _ => h
  | _ :: _, _ :: _, _ :: _, _, hT, ⟨p, q, ⟨n, h1⟩, h2, e⟩, hm, hs =>
    ⟨p, q, ⟨n, DataW.trod_respare K hz n _ _ _ (hT _ (List.mem_cons.2 (Or.inl rfl))) (DataW.trod_carry n _ _ _ h1 (fun x hx => hm x (by rw [e]; exact List.mem_append_left _ hx))) (fun x hx => hs x (by rw [e]; exact List.mem_append_left _ hx))⟩,
      stays K hz (fun t ht => hT t (List.mem_cons.2 (Or.inr ht))) h2 (fun x hx => hm x (by rw [e]; exact List.mem_append_right _ hx)) (fun x hx => hs x (by rw [e]; exact List.mem_append_right _ hx)), e⟩
theorem sameAt_of {W W' : World} (h : ∀ i, i < W.heap.size → W'.heap[i]? = W.heap[i]?) {p : MemPlace} (hp : p.block < W.heap.size) : W.sameAt W' p := by
  cases p with
  | cell b o => show W'.cell? _ = W.cell? _; unfold World.cell?; rw [h b hp]
  | map b => exact h b hp
theorem post_of_old {H : Type} {enc : TypeId × Value → H} {P : Program} {f : Func} {s : ChangeSpec} {apart fresh handsOn again : Bool} {W W' : World} {args : Array Value} {v : Value} {ds gs : List (DataW H)} {before pa pv : List MemPlace}
    (hW : DataW.Whole enc P f.params.toList s.vars apart W args.toList ds gs before)
    (hres : ∀ (b : Nat) (sp : Nat → Bool) (hd : Bool), DataW.TrodAll enc P W' b sp hd f.resultTypes.toList (v.resultList f.resultTypes.size) (s.fn H (ds ++ gs)).results [])
    (hargs : ∀ sp : Nat → Bool, (∀ p ∈ before, sp p.block = true) → DataW.TrodAll enc P W' 0 sp true f.params.toList args.toList (s.fn H (ds ++ gs)).args pa)
    (hvars : ∀ sp : Nat → Bool, (∀ p ∈ before, sp p.block = true) → DataW.TrodVars enc P W' sp s.vars (s.fn H (ds ++ gs)).vars pv)
    (hps : before = pa ++ pv) (hg : GrownO W W')
    (hok : ∀ (j : Nat) (t : TypeId) (r : Value), f.resultTypes[j]? = some t → (v.resultList f.resultTypes.size)[j]? = some r → Value.okWide P W' .any 0 t r) :
    s.post enc P f apart fresh handsOn again W args v W' := by
  have hlt := hW.lt
  have hin : ∀ p, p ∈ ([] ++ pa) ++ pv ↔ p ∈ before := fun p => by rw [hps, List.nil_append]
  have hold : ∀ p ∈ before, (fun b => decide (b < W.heap.size)) p.block = true := fun p hp => by simpa using hlt p hp
  have hfree := hW
  obtain ⟨_, _, _, _, _, hz, hn⟩ := hfree
  refine ⟨ds, gs, before, [], pa, pv, hW, hres _ _ _, hargs _ hold, hvars _ hold, World.keptBut_mono (fun p hp => ⟨hp, ?_⟩) (hg.frame (· ∈ before)), fun _ => ⟨hok, (s.fn H (ds ++ gs)).results ++ (s.fn H (ds ++ gs)).args, (s.fn H (ds ++ gs)).vars, ([] ++ pa) ++ pv, ⟨[] ++ pa, pv, trodAll_append (hargs (fun _ => true) (fun _ _ => rfl)) (hres _ _ _), hvars _ (fun _ _ => rfl), rfl, ?_, ?_⟩, ?_⟩⟩
  · have h2 : p ∈ before := hp
    rw [hps] at h2
    exact .inr (List.mem_append.1 h2)
  · intro b off hp
    have hb := (hin _).1 hp
    rw [hg.2.1 ⟨b, off, none⟩ (hlt (.cell b off) hb)]
    exact hz b off hb
  · intro ha
    have := hn ha
    rw [hps] at this
    exact this
  · intro p hp _
    exact (hin p).1 hp
end Go.Proofs.Ythdlkpmhjbaplaa.Dx
namespace Go.Proofs
open Go
def Try.sortL_ren : Go.Shelf.Ren := ⟨fun | 5 => 114 | 8 => 122 | 7 => 121 | 19 => 132 | 20 => 133 | 10 => 123 | 11 => 124 | 12 => 125 | 13 => 126 | 14 => 127 | 15 => 128 | 16 => 129 | 17 => 130 | 18 => 131 | 30 => 134 | 31 => 135 | 32 => 136 | 33 => 137 | 34 => 138 | 35 => 139 | 40 => 140 | n => n, fun | 23 => 40 | 25 => 3 | 3 => 3 | 32 => 67 | 22 => 40 | 0 => 0 | 44 => 142 | 46 => 144 | 4 => 4 | 36 => 136 | 35 => 135 | 41 => 55 | 5 => 5 | 9 => 9 | 53 => 145 | 57 => 149 | 63 => 151 | 64 => 46 | n => n, fun | n => n⟩
theorem Try.sortL : Go.Proofs.SlLaysM.n5 Try.prog Try.sortL_ren := {
  mixed := by kernel_rfl,
  f5 := ⟨ "slices.Sort[[]int,int]", by decide, Try.func114.trans (congrArg some (by kernel_rfl))⟩,
  f7 := ⟨ "slices.pdqsortOrdered[int]", by decide, Try.func121.trans (congrArg some (by kernel_rfl))⟩,
  f8 := Try.func122.trans (congrArg some (by kernel_rfl)),
  f10 := ⟨ "slices.insertionSortOrdered[int]", by decide, Try.func123.trans (congrArg some (by kernel_rfl))⟩,
  f11 := ⟨ "slices.heapSortOrdered[int]", by decide, Try.func124.trans (congrArg some (by kernel_rfl))⟩,
  f12 := ⟨ "slices.breakPatternsOrdered[int]", by decide, Try.func125.trans (congrArg some (by kernel_rfl))⟩,
  f13 := ⟨ "slices.choosePivotOrdered[int]", by decide, Try.func126.trans (congrArg some (by kernel_rfl))⟩,
  f14 := ⟨ "slices.reverseRangeOrdered[int]", by decide, Try.func127.trans (congrArg some (by kernel_rfl))⟩,
  f15 := ⟨ "slices.partialInsertionSortOrdered[int]", by decide, Try.func128.trans (congrArg some (by kernel_rfl))⟩,
  f16 := ⟨ "cmp.Less[int]", by decide, Try.func129.trans (congrArg some (by kernel_rfl))⟩,
  f17 := ⟨ "slices.partitionEqualOrdered[int]", by decide, Try.func130.trans (congrArg some (by kernel_rfl))⟩,
  f18 := ⟨ "slices.partitionOrdered[int]", by decide, Try.func131.trans (congrArg some (by kernel_rfl))⟩,
  f19 := Try.func132.trans (congrArg some (by kernel_rfl)),
  f20 := Try.func133.trans (congrArg some (by kernel_rfl)),
  f30 := ⟨ "slices.siftDownOrdered[int]", by decide, Try.func134.trans (congrArg some (by kernel_rfl))⟩,
  f31 := Try.func135.trans (congrArg some (by kernel_rfl)),
  f32 := Try.func136.trans (congrArg some (by kernel_rfl)),
  f33 := ⟨ "slices.medianAdjacentOrdered[int]", by decide, Try.func137.trans (congrArg some (by kernel_rfl))⟩,
  f34 := ⟨ "slices.medianOrdered[int]", by decide, Try.func138.trans (congrArg some (by kernel_rfl))⟩,
  f35 := ⟨ "cmp.isNaN[int]", by decide, Try.func139.trans (congrArg some (by kernel_rfl))⟩,
  f40 := ⟨ "slices.order2Ordered[int]", by decide, Try.func140.trans (congrArg some (by kernel_rfl))⟩,
  t0 := Try.underlying0,
  a0 := Try.isAgg0,
  z0 := Try.sizeOf0,
  v0 := Try.zeroValue0,
  t3 := Try.underlying3,
  a3 := Try.isAgg3,
  z3 := Try.sizeOf3,
  v3 := Try.zeroValue3,
  t4 := Try.underlying4,
  a4 := Try.isAgg4,
  z4 := Try.sizeOf4,
  v4 := Try.zeroValue4,
  t5 := Try.underlying5,
  a5 := Try.isAgg5,
  z5 := Try.sizeOf5,
  v5 := Try.zeroValue5,
  t9 := Try.underlying9,
  a9 := Try.isAgg9,
  z9 := Try.sizeOf9,
  v9 := Try.zeroValue9,
  t22 := Try.underlying40,
  a22 := Try.isAgg40,
  z22 := Try.sizeOf40,
  v22 := Try.zeroValue40,
  t23 := Try.underlying40,
  a23 := Try.isAgg40,
  z23 := Try.sizeOf40,
  v23 := Try.zeroValue40,
  t25 := Try.underlying3,
  a25 := Try.isAgg3,
  z25 := Try.sizeOf3,
  v25 := Try.zeroValue3,
  t32 := Try.underlying67,
  a32 := Try.isAgg67,
  z32 := Try.sizeOf67,
  v32 := Try.zeroValue67,
  t35 := Try.underlying135,
  a35 := Try.isAgg135,
  z35 := Try.sizeOf135,
  v35 := Try.zeroValue135,
  t36 := Try.underlying136,
  a36 := Try.isAgg136,
  z36 := Try.sizeOf136,
  v36 := Try.zeroValue136,
  t41 := Try.underlying55,
  a41 := Try.isAgg55,
  z41 := Try.sizeOf55,
  v41 := Try.zeroValue55,
  t44 := Try.underlying142,
  a44 := Try.isAgg142,
  z44 := Try.sizeOf142,
  v44 := Try.zeroValue142,
  t46 := Try.underlying144,
  a46 := Try.isAgg144,
  z46 := Try.sizeOf144,
  v46 := Try.zeroValue144,
  t53 := Try.underlying145,
  a53 := Try.isAgg145,
  z53 := Try.sizeOf145,
  v53 := Try.zeroValue145,
  t57 := Try.underlying149,
  a57 := Try.isAgg149,
  z57 := Try.sizeOf149,
  v57 := Try.zeroValue149,
  t63 := Try.underlying151,
  a63 := Try.isAgg151,
  z63 := Try.sizeOf151,
  v63 := Try.zeroValue151,
  t64 := Try.underlying46,
  a64 := Try.isAgg46,
  z64 := Try.sizeOf46,
  v64 := Try.zeroValue46 }
end Go.Proofs
namespace Go.Proofs.Ythdlkpmhjbaplaa.Dx
open Go
theorem insI_perm (x : Int) : ∀ l : List Int, (insI x l).Perm (x :: l)
  | [] => .refl _
  | y :: t => by
    unfold insI
    cases h : ilt y x with
    | true => exact (List.Perm.cons y (insI_perm x t)).trans (.swap x y t)
    | false => exact .refl _
theorem sortI_perm : ∀ l : List Int, (sortI l).Perm l
  | [] => .refl _
  | x :: l => by unfold sortI; exact (insI_perm x _).trans (.cons x (sortI_perm l))
theorem insI_sorted (x : Int) : ∀ l : List Int, l.Pairwise (· ≤ ·) → (insI x l).Pairwise (· ≤ ·)
  | [], _ => by simp [insI]
  | y :: t, h => by
    have h2 := List.pairwise_cons.1 h
    unfold insI
    cases hh : ilt y x with
    | true =>
      rw [ilt_eq, decide_eq_true_eq] at hh
      refine List.pairwise_cons.2 ⟨fun z hz => ?_, insI_sorted x t h2.2⟩
      have hz' := (insI_perm x t).mem_iff.1 hz
      rcases List.mem_cons.1 hz' with rfl | hz'
      · omega
      · exact h2.1 z hz'
    | false =>
      rw [ilt_eq, decide_eq_false_iff_not] at hh
      refine List.pairwise_cons.2 ⟨fun z hz => ?_, h⟩
      rcases List.mem_cons.1 hz with rfl | hz'
      · omega
      · have := h2.1 z hz'; omega
theorem sortI_sorted : ∀ l : List Int, (sortI l).Pairwise (· ≤ ·)
  | [] => .nil
  | x :: l => by unfold sortI; exact insI_sorted x _ (sortI_sorted l)
theorem sortI_merge (l : List Int) : l.mergeSort (fun x y => decide (x ≤ y)) = sortI l := by
  refine List.Perm.eq_of_pairwise (le := (· ≤ ·)) (fun a b _ _ h1 h2 => by omega) ?_ (sortI_sorted l) ((List.mergeSort_perm _ _).trans (sortI_perm l).symm)
  have := List.pairwise_mergeSort (le := fun x y : Int => decide (x ≤ y)) (fun a b c h1 h2 => by simp only [decide_eq_true_eq] at *; omega) (fun a b => by simp only [Bool.or_eq_true, decide_eq_true_eq]; omega) l
  exact this.imp (fun h => of_decide_eq_true h)
theorem sortI_length (l : List Int) : (sortI l).length = l.length := (sortI_perm l).length_eq
theorem intsOf_eq : ∀ {ds : List DV} {xs : List Int}, intsOf ds = some xs → ds = xs.map (DV.int .i64)
  | [], xs, h => by simp only [intsOf, Option.some.injEq] at h; subst h; rfl
  | d :: ds, xs, h => by
    cases d <;> try (simp [intsOf] at h; done)
    rename_i k n
    cases k <;> try (simp [intsOf] at h; done)
    simp only [intsOf] at h
    cases hq : intsOf ds with
    | none => simp only [hq, reduceCtorEq] at h
    | some r =>
      simp only [hq, Option.some.injEq] at h
      subst h
      rw [intsOf_eq hq]; rfl
theorem VRs.ints (j : J) : ∀ xs : List Int, VRs j (xs.map (DV.int .i64)) (xs.map (Value.int .i64))
  | [] => .nil
  | x :: xs => .cons (.int _ _) rfl (VRs.ints j xs)
section
variable {L : P → Prop} {N hi : Nat} {j : J} {pv : P → Option Nat} {e : Env} {nx : P} {h : Hp} {a : Act} {w : World}
theorem Rel.grow (R : Rel L N hi j pv e nx h a w) (os : Array Obj) : Rel L N hi j pv e nx h a (Sort.grow w os) where
  fresh := R.fresh
  heap := fun k i hk hlt => HR.of_heap (w := w) (Ext.refl j) rfl (by simp) (fun b hb => Sort.heap_grow_old w os (by
    rcases hb with ⟨s', c', rfl⟩ | ⟨s', rfl⟩
    · exact R.lt _ _ _ _ hk
    · exact R.lr _ _ _ hk)) (R.heap k i hk hlt)
  inj := R.inj
  inr := R.inr
  env := fun p v hv => ER.of_heap (w := w) (Ext.refl j) (by simp) (fun b hb => Sort.heap_grow_old w os (by
    obtain ⟨l, hl⟩ := R.pvv p b hb
    obtain ⟨b', h1, _, h2, _⟩ := (R.env p _ hl : ER j pv w a.tmps p (.var l))
    rw [hb] at h1; cases h1; exact h2.lt)) (R.env p v hv)
  pvv := R.pvv
  pin := R.pin
  pfr := R.pfr
  pfo := R.pfo
  loc := R.loc
  size := R.size
  lt := fun k b s c hk => by have := R.lt k b s c hk; simp; omega
  lr := fun k b s hk => by have := R.lr k b s hk; simp; omega
  top := R.top
theorem Fr.grow (hi n : Nat) (j : J) (pv : P → Option Nat) (w : World) (os : Array Obj) : Fr hi n j pv w j pv (Sort.grow w os) :=
  { Fr.refl hi n j pv w with size := by simp, os := rfl, output := rfl, same := fun x hx _ _ => Sort.heap_grow_old w os hx, new := fun k x s c h hk => .inl ⟨k, s, c, h, hk⟩, pnew := fun p x h => .inl h, froz := fun ad hl => Sort.frozen?_grow w os ad hl }
end
theorem putRow_set0 {w : World} {blk off : Nat} {xs ys : List Int} (hH : Sort.Holds (Value.int .i64) w blk off xs.toArray) (hl : ys.length = xs.length) :
    Sort.putRow (Value.int .i64) w blk off ys.toArray = w.setCells blk off (ys.map (Value.int .i64)) := by
  have h1 := Lib.putRow_setCells (Value.int .i64) w blk off ys xs.toArray 0 (by simp; omega)
  rw [Sort.putRow_self _ _ _ _ _ hH, Nat.add_zero] at h1
  rw [h1]
  congr 1
  apply Array.ext_getElem?
  intro t
  rw [Lib.lay_get? _ _ _ _ (by simp; omega)]
  by_cases ht : t < ys.length
  · rw [if_pos (by omega)]; simp
  · rw [if_neg (by omega)]
    rw [Array.getElem?_eq_none (by simp; omega), Array.getElem?_eq_none (by simp; omega)]
theorem primV0 {wm : Option P} {vs : List DV} {nx : P} {h : Hp} {v : DV} {nx' : P} {h' : Hp} (hp : primV 0 wm vs nx h = some (v, nx', h')) :
    (vs = [.nils] ∧ v = .tup [] ∧ nx' = nx ∧ h' = h) ∨
    ∃ b o n cp l xs, vs = [.sl b o n cp 1] ∧ mayB wm b = true ∧ n ≤ 1000000 ∧ Tr.get? b h = some (.cells l) ∧ o + n ≤ l.length ∧ intsOf ((l.drop o).take n) = some xs ∧ v = .tup [] ∧ nx' = nx ∧
      h' = Tr.set b h (some (.cells (l.take o ++ (sortI xs).map (DV.int .i64) ++ l.drop (o + n)))) := by
  unfold primV at hp
  split at hp
  · rename_i b o n cp sz _
    split at hp
    · rename_i hb hg
      split at hp
      · rename_i hle hxs
        simp only [Option.some.injEq, Prod.mk.injEq] at hp
        obtain ⟨rfl, rfl, rfl⟩ := hp
        simp only [Bool.and_eq_true, Nat.beq_eq, Nat.ble_eq] at hb hle
        obtain ⟨⟨rfl, hmay⟩, hn⟩ := hb
        exact .inr ⟨_, _, _, _, _, _, rfl, hmay, hn, hg, hle, hxs, rfl, rfl, rfl⟩
      · cases hp
    · cases hp
  · simp only [Option.some.injEq, Prod.mk.injEq] at hp
    obtain ⟨rfl, rfl, rfl⟩ := hp
    exact .inl ⟨rfl, rfl, rfl, rfl⟩
  · rename_i h0; cases h0
  · cases hp
theorem sort_prim {Pr : Program} {ρ : Go.Shelf.Ren} (Ly : SlLaysM.n5 Pr ρ) {f : P} (hf : f.n = ρ.f 5) (hx : ∃ fn, Pr.funcs[f.n]? = some fn ∧ (fn.name == "runtime.NumGoroutine") = false ∧ fn.body.isNone = false) : PrimOk Pr f 0 := by
  refine ⟨hx, fun wm vs nx h v nx' h' hp => ?_⟩
  rcases primV0 hp with ⟨rfl, rfl, rfl, rfl⟩ | ⟨b, o, n, cp, l, xs, rfl, hmay, hn, hg, hle, hxs, rfl, rfl, rfl⟩
  · refine ⟨?_, MovesC.refl _ _ _⟩
    intro L N hi j pv e a w R _ args hargs
    cases hargs with
    | cons hv ht =>
      cases ht
      have hv' := XD.nils (j := j) (pv := pv) hv
      subst hv'
      rw [hf]
      refine (AnyM.slices_Sort_int_none Ly none 0 w).mono ?_
      rintro r w' ⟨rfl, rfl⟩
      exact ⟨_, j, rfl, R, Fr.refl _ _ _ _ _, .tup (l' := []) .nil⟩
  have hxl : xs.length = n := by
    have h1 := congrArg List.length (intsOf_eq hxs)
    simp only [List.length_take, List.length_drop, List.length_map] at h1; omega
  have hsl := sortI_length xs
  have hml : ((sortI xs).map (DV.int .i64)).length = n := by simp; omega
  refine ⟨?_, ⟨Nat.le_refl _, fun m hm hmn k hk => ?_, fun ht k hk => ?_⟩⟩
  · intro L N hi j pv e a w R hnh args hargs
    cases hargs with
    | cons hv ht =>
      cases ht
      have hlt : b.n < nx'.n := by
        rcases Nat.lt_or_ge b.n nx'.n with h' | h'
        · exact h'
        · rw [R.top b h'] at hg; cases hg
      cases hv with
      | slO hjk => obtain ⟨_, hg', _⟩ := R.heap b _ hjk hlt; rw [hg] at hg'; cases hg'
      | slD _ hjk => have hg' : Tr.get? b h = some .dead := R.heap b _ hjk hlt; rw [hg] at hg'; cases hg'
      | slE _ hjk => obtain ⟨_, hg', _⟩ := R.heap b _ hjk hlt; rw [hg] at hg'; cases hg'
      | slA hjk hoff hcap hs he =>
        rename_i blk s c off cap
        obtain ⟨hlies, l', hg', hll, hcells⟩ := R.heap b _ hjk hlt
        rw [hg] at hg'; cases hg'
        have hoff' : 0 < n → off = s + o := fun h0 => hoff (.inl h0)
        have hH : Sort.Holds (Value.int .i64) w blk off xs.toArray := by
          intro t ht
          have ht' : t < xs.length := by simpa using ht
          have h0 := hoff' (by omega)
          subst h0
          have hlt' : l[o + t]? = some (DV.int .i64 xs[t]) := by
            have h1 := congrArg (fun q => q[t]?) (intsOf_eq hxs)
            simp only [List.getElem?_take, List.getElem?_drop, List.getElem?_map, List.getElem?_eq_getElem ht', Option.map_some] at h1
            rw [if_pos (by omega)] at h1
            exact h1
          obtain ⟨v', g1, g2, _⟩ := hcells (o + t) _ hlt'
          cases g2
          refine ⟨?_, ?_⟩
          · rw [Nat.add_assoc, g1, getElem!_pos _ t ht]; simp
          · rw [Nat.add_assoc]; exact hlies.free _ (by omega) (by omega)
        rw [hf]
        have key := AnyM.slices_Sort_int Ly blk off cap xs w hH hlies.lt (by omega)
        rw [hxl] at key
        refine key.mono ?_
        rintro r w' ⟨rfl, q, os, rfl⟩
        rw [sortI_merge, putRow_set0 (Sort.holds_ahead _ _ _ _ _ _ hH) hsl]
        obtain ⟨R2, F2⟩ := (R.drew (w.drawn + q)).at_store hnh hjk hlt hg (VRs.ints j (sortI xs)) (by rw [hml]; exact hle)
        have hset : (Sort.ahead w q).setCells blk off ((sortI xs).map (Value.int .i64)) = World.setCells { w with drawn := w.drawn + q } blk (s + o) ((sortI xs).map (Value.int .i64)) := by
          rcases Nat.eq_zero_or_pos n with h0 | h0
          · have : sortI xs = [] := List.eq_nil_of_length_eq_zero (by omega)
            rw [this]; rfl
          · rw [hoff' h0]; rfl
        rw [hset]
        rw [hml] at R2
        exact ⟨_, j, rfl, R2.grow os, ((Fr.drew hi nx'.n j pv w _).trans F2 (Nat.le_refl _)).trans (Fr.grow hi nx'.n j pv _ os) (Nat.le_refl _), .tup (l' := []) .nil⟩
  · have : k ≠ b := by
      rintro rfl
      subst hm
      have : Nat.ble m.n k.n = true := hmay
      rw [Nat.ble_eq] at this; omega
    exact Tr.get_set_ne this _ _
  · have : k ≠ b := by
      rintro rfl
      rw [ht k hk] at hg; cases hg
    rw [Tr.get_set_ne this]; exact ht k hk
end Go.Proofs.Ythdlkpmhjbaplaa.Dx
namespace Go.Proofs.Ythdlkpmhjbaplaa.Dx
open Go Go.RowKit
def zC : Array Value := #[.int .i64 0, .slice none 0 0, .bool false]
theorem run_clear3 {w : World} {b off n cap : Nat} (ty : Nat) (hn : 0 < n) (hc : ∀ t, t < n * 3 → (w.cell? ⟨b, off + t, none⟩).isSome = true) (hf : ∀ t, t < n * 3 → w.frozen? ⟨b, off + t, none⟩ = false) :
    (Builtin.clear_ #[22] ty #[.slice (some ⟨b, off, none⟩) n cap]).run Try.prog w = .ok (.tuple #[]) (w.setCells b off (Builtin.zeroCells zC n).toList) := by
  have hl : (Builtin.zeroCells zC n).toList.length = n * 3 := by rw [Array.length_toList, zeroCells_size]; rfl
  have h1 : ∀ u ∈ (Builtin.zeroCells zC n).toList, u.oneCell' = true := by
    exact (zeroCells_reps (j := fun _ => none) (z := [.int .i64 0, .nils, .bool false]) (.cons (.int _ _) rfl (.cons .nils rfl (.cons (.bool _) rfl .nil))) n).ones
  have hst := run_storeCells_cells (P := Try.prog) b off (Builtin.zeroCells zC n).toList 0 w (fun q hq => by simpa using hc q (by omega)) (fun q hq => by simpa using hf q (by omega)) h1
  obtain ⟨m, rfl⟩ : ∃ m, n = m + 1 := ⟨n - 1, by omega⟩
  try simp only [Nat.add_zero] at hst
  have hz : ∀ W : World, (zeroValue 31).run Try.prog W = .ok (.agg zC) W := Try.zeroValue31
  simp only [Builtin.clear_, Sem.run_bind, Sem.run_pure, Result.andThen_ok, List.getElem?_toArray, List.getElem?_cons_zero, run_underlying Try.underlying22, hz]
  show ((storeCells ⟨b, off, none⟩ (Builtin.zeroCells zC (m + 1)).toList).run Try.prog w).andThen _ = _
  rw [hst]; rfl
set_option maxHeartbeats 4000000 in
set_option maxRecDepth 1000000 in
theorem del_walk (blk off n cap i j : Nat) (vs : List Value) (w : World) (hl : vs.length = n * 3) (hc : ∀ t v, vs[t]? = some v → w.cell? ⟨blk, off + t, none⟩ = some v) (h1 : ∀ v ∈ vs, v.oneCell' = true)
    (hf : ∀ t, t < n * 3 → w.frozen? ⟨blk, off + t, none⟩ = false) (hcap : n ≤ cap) (hm : n ≤ 1000000) (hlt : i < j) (hj : j ≤ n) :
    Calls Try.prog 101 #[.slice (some ⟨blk, off, none⟩) n cap, .int .i64 i, .int .i64 j] w fun e w' => e = .returned (.slice (some ⟨blk, off, none⟩) (i + (n - j)) cap) ∧
      w' = (w.drew.setCells blk (off + i * 3) (vs.drop (j * 3))).setCells blk (off + (i + (n - j)) * 3) (Builtin.zeroCells zC (n - (i + (n - j)))).toList := by
  have mixed : Try.prog.follows .mixedOrders = true := by kernel_rfl
  obtain ⟨i0, hi0, hz1⟩ : ∃ i0, Try.prog.info? 31 = some i0 ∧ i0.size = 3 := by
    have h : (Try.prog.info? 31).map (·.size) = some 3 := by kernel_rfl
    cases hh : Try.prog.info? 31 with
    | none => rw [hh] at h; cases h
    | some i0 => rw [hh] at h; exact ⟨i0, rfl, by simpa using h⟩
  obtain ⟨news, hnews⟩ : ∃ news, news = vs.drop (j * 3) := ⟨_, rfl⟩
  have hlen : news.length = (n - j) * 3 := by rw [hnews, List.length_drop, hl, Nat.sub_mul]
  obtain ⟨A, hA, hsrc⟩ : ∃ A : Addr, (if cap = j then some (⟨blk, off, none⟩ : Addr) else some ⟨blk, off + j * 3, none⟩) = some A ∧ Hid (∀ t u, news[t]? = some u → w.drew.cell? (A.add t) = some u) := by
    by_cases h : cap = j
    · refine ⟨⟨blk, off, none⟩, by simp [h], fun t u hu => ?_⟩
      have h0 : news.length = 0 := by rw [hlen]; omega
      rw [List.length_eq_zero_iff.1 h0] at hu
      simp at hu
    · refine ⟨⟨blk, off + j * 3, none⟩, by simp [h], fun t u hu => ?_⟩
      rw [hnews, List.getElem?_drop] at hu
      rw [Addr.add_lit, show off + j * 3 + t = off + (j * 3 + t) by omega]
      exact hc _ _ hu
  have s1 : Hid (news.length = (n - j) * 3) := hlen
  have s2 : Hid (∀ u ∈ news, u.oneCell' = true) := by
    intro u hu
    rw [hnews] at hu
    exact h1 u (List.mem_of_mem_drop hu)
  have s3 : Hid (∀ t, t < news.length → (w.drew.cell? ⟨blk, off + i * 3 + t, none⟩).isSome = true ∧ w.drew.frozen? ⟨blk, off + i * 3 + t, none⟩ = false) := by
    intro t ht
    rw [hlen] at ht
    rw [Nat.add_assoc]
    have hb : i * 3 + t < vs.length := by omega
    exact ⟨by show (w.cell? _).isSome = true; rw [hc (i * 3 + t) _ (List.getElem?_eq_getElem hb)]; rfl, hf (i * 3 + t) (by omega)⟩
  obtain ⟨W1, hW1⟩ : ∃ W1, W1 = w.drew.setCells blk (off + i * 3) news := ⟨_, rfl⟩
  have hcl : ∀ ty, (Builtin.clear_ #[22] ty #[.slice (some ⟨blk, off + (i + (n - j)) * 3, none⟩) (n - (i + (n - j))) (cap - (i + (n - j)))]).run Try.prog W1 = .ok (.tuple #[]) (W1.setCells blk (off + (i + (n - j)) * 3) (Builtin.zeroCells zC (n - (i + (n - j)))).toList) := by
    intro ty
    refine run_clear3 ty (by omega) (fun t ht => ?_) (fun t ht => ?_)
    · rw [hW1, setCells_some]
      have hb : (i + (n - j)) * 3 + t < vs.length := by omega
      rw [Nat.add_assoc]
      show (w.cell? _).isSome = true
      rw [hc _ _ (List.getElem?_eq_getElem hb)]; rfl
    · rw [hW1, World.frozen?_setCells, Nat.add_assoc]
      exact hf _ (by omega)
  have hW : Hid (W1 = w.drew.setCells blk (off + i * 3) news) := hW1
  have X : Aside (W1 = w.drew.setCells blk (off + i * 3) (vs.drop (j * 3))) := by rw [← hnews]; exact hW1
  have hic : i ≤ cap := by omega
  have hjc : j ≤ cap := by omega
  have hne : ¬ (i : Int) = (j : Int) := by omega
  clear hW1 hnews hc hf hlen h1 hl
  go_enter Try.func101, Try.ntmps101
  go_wp2_with fail
  go_region_law_o (refine step_append_room rfl (.tmp 22) (.tmp 25) 22 rfl 31 i0 3 Try.underlying22 hi0 hz1 blk off i cap (by simp [Act.eval, Act.put]) A (n - j) (cap - j) news (by simp [Act.eval, Act.put]) s1.out hsrc.out s2.out (by omega) s3.out ?_; rw [← hW.out])
  go_wp2
  go_ret
  exact ⟨rfl, by rw [X.out]⟩
theorem setCells_app (b : Nat) : ∀ (xs ys : List Value) (o : Nat) (w : World), w.setCells b o (xs ++ ys) = (w.setCells b o xs).setCells b (o + xs.length) ys
  | [], _, _, _ => rfl
  | x :: xs, ys, o, w => by
    simp only [List.cons_append, World.setCells, List.length_cons]
    rw [setCells_app b xs ys, show o + 1 + xs.length = o + (xs.length + 1) by omega]
theorem delZ_reps : ∀ n, delZ n = reps [.int .i64 0, .nils, .bool false] n
  | 0 => rfl
  | n + 1 => by rw [delZ, delZ_reps n]; simp [reps, List.replicate_succ]
theorem primV1 {wm : Option P} {vs : List DV} {nx : P} {h : Hp} {v : DV} {nx' : P} {h' : Hp} (hp : primV 1 wm vs nx h = some (v, nx', h')) :
    ∃ b o n cp l, ∃ i j : Nat, vs = [.sl b o n cp 3, .int .i64 i, .int .i64 j] ∧ mayB wm b = true ∧ n ≤ 1000000 ∧ Tr.get? b h = some (.cells l) ∧ o + n * 3 ≤ l.length ∧ i < j ∧ j ≤ n ∧ v = .sl b o (n - (j - i)) none 3 ∧ nx = nx' ∧
      h' = Tr.set b h (some (.cells (l.take (o + i * 3) ++ ((l.drop (o + j * 3)).take ((n - j) * 3) ++ delZ (j - i)) ++ l.drop (o + n * 3)))) := by
  unfold primV at hp
  split at hp
  · rename_i h0; cases h0
  · rename_i h0; cases h0
  · rename_i b o n cp sz i j _
    split at hp
    · rename_i hb hg
      split at hp
      · rename_i hle
        simp only [Option.some.injEq, Prod.mk.injEq] at hp
        obtain ⟨rfl, rfl, rfl⟩ := hp
        simp only [Bool.and_eq_true, Nat.beq_eq, Nat.ble_eq, ilt_eq, Bool.not_eq_true', decide_eq_true_eq, decide_eq_false_iff_not] at hb hle
        obtain ⟨⟨⟨rfl, hmay⟩, hn⟩, ⟨h1, h2⟩, h3⟩ := hb
        have h3' : ¬ ((n : Int) < j) := h3
        refine ⟨b, o, n, cp, _, i.toNat, j.toNat, ?_, hmay, hn, hg, hle, by omega, by omega, rfl, rfl, rfl⟩
        rw [Int.toNat_of_nonneg (by omega), Int.toNat_of_nonneg (by omega)]
      · cases hp
    · cases hp
  · cases hp
theorem del_prim {f : P} (hf : f.n = 101) (hx : ∃ fn, Try.prog.funcs[f.n]? = some fn ∧ (fn.name == "runtime.NumGoroutine") = false ∧ fn.body.isNone = false) : PrimOk Try.prog f 1 := by
  refine ⟨hx, fun wm vs nx h v nx' h' hp => ?_⟩
  obtain ⟨b, o, n, cp, l, i, j, rfl, hmay, hn, hg, hle, hij, hjn, rfl, rfl, rfl⟩ := primV1 hp
  clear hp
  refine ⟨?_, ⟨Nat.le_refl _, fun m hm hmn k hk => ?_, fun ht k hk => ?_⟩⟩
  · intro L N hi jj pv e a w R hnh args hargs
    cases hargs with
    | cons hv ht =>
      cases ht with
      | cons hv1 ht =>
      cases ht with
      | cons hv2 ht =>
      cases ht; cases hv1; cases hv2
      have hlt : b.n < nx.n := by
        rcases Nat.lt_or_ge b.n nx.n with h' | h'
        · exact h'
        · rw [R.top b h'] at hg; cases hg
      cases hv with
      | slO hjk => obtain ⟨_, hg', _⟩ := R.heap b _ hjk hlt; rw [hg] at hg'; cases hg'
      | slD _ hjk => have hg' : Tr.get? b h = some .dead := R.heap b _ hjk hlt; rw [hg] at hg'; cases hg'
      | slE _ hjk => obtain ⟨_, hg', _⟩ := R.heap b _ hjk hlt; rw [hg] at hg'; cases hg'
      | slA hjk hoff hcap hs he =>
        rename_i blk s c off cap
        obtain ⟨hlies, l', hg', hll, hcells⟩ := R.heap b _ hjk hlt
        rw [hg] at hg'; cases hg'
        have hso : off = s + o := hoff (.inl (by omega))
        subst hso
        obtain ⟨vs, g1, g2, g3⟩ := hcells.part o (n * 3) (by simp; omega)
        have key := del_walk blk (s + o) n cap i j vs w g2 g3 g1.ones (fun t ht => by rw [Nat.add_assoc]; exact hlies.free _ (by omega) (by omega)) hcap.1 hn hij hjn
        rw [hf]
        refine key.mono ?_
        rintro r w' ⟨rfl, rfl⟩
        have hzr : VRs jj (delZ (j - i)) (Builtin.zeroCells zC (n - (i + (n - j)))).toList := by
          rw [delZ_reps, show n - (i + (n - j)) = j - i by omega]
          exact zeroCells_reps (z := [.int .i64 0, .nils, .bool false]) (.cons (.int _ _) rfl (.cons .nils rfl (.cons (.bool _) rfl .nil))) _
        have hd : VRs jj ((l.drop (o + j * 3)).take ((n - j) * 3)) (vs.drop (j * 3)) := by
          have := g1.drop (j * 3)
          rw [List.drop_take, List.drop_drop, ← Nat.sub_mul] at this
          exact this
        have hcl := hd.append hzr
        have hll1 : ((l.drop (o + j * 3)).take ((n - j) * 3)).length = (n - j) * 3 := by rw [List.length_take, List.length_drop]; omega
        have hll2 : (delZ (j - i)).length = (j - i) * 3 := by rw [hzr.length, Array.length_toList, zeroCells_size, show n - (i + (n - j)) = j - i by omega]; rfl
        have hlen : ((l.drop (o + j * 3)).take ((n - j) * 3) ++ delZ (j - i)).length = (n - i) * 3 := by rw [List.length_append, hll1, hll2]; omega
        obtain ⟨R2, F2⟩ := (R.drew (w.drawn + 1)).at_store (o := o + i * 3) hnh hjk hlt hg hcl (by rw [hlen]; omega)
        rw [hlen, show o + i * 3 + (n - i) * 3 = o + n * 3 by omega, setCells_app, ← hd.length, hll1, show s + (o + i * 3) = s + o + i * 3 by omega, show s + o + i * 3 + (n - j) * 3 = s + o + (i + (n - j)) * 3 by omega] at R2
        rw [setCells_app, ← hd.length, hll1, show s + (o + i * 3) = s + o + i * 3 by omega, show s + o + i * 3 + (n - j) * 3 = s + o + (i + (n - j)) * 3 by omega] at F2
        refine ⟨_, jj, rfl, R2, (Fr.drew hi nx.n jj pv w _).trans F2 (Nat.le_refl _), ?_⟩
        rw [show n - (j - i) = i + (n - j) by omega]
        exact .slA hjk (fun _ => rfl) ⟨by have := hcap.1; omega, fun c h => by cases h⟩ hs he
  · have : k ≠ b := by
      rintro rfl
      subst hm
      have : Nat.ble m.n k.n = true := hmay
      rw [Nat.ble_eq] at this; omega
    exact Tr.get_set_ne this _ _
  · have : k ≠ b := by
      rintro rfl
      rw [ht k hk] at hg; cases hg
    rw [Tr.get_set_ne this]; exact ht k hk
end Go.Proofs.Ythdlkpmhjbaplaa.Dx
namespace Go.Proofs.Ythdlkpmhjbaplaa.Dx
open Go
theorem prim114 : PrimOk Try.prog p114 0 := sort_prim Try.sortL rfl ⟨Try.f114, Try.func114, by kernel_rfl, by kernel_rfl⟩
theorem prim101 : PrimOk Try.prog p101 1 := del_prim rfl ⟨Try.f101, Try.func101, by kernel_rfl, by kernel_rfl⟩
theorem c14 : chkFd Try.prog ls14 Try.f14 f14 = true := by kernel_rfl
theorem c43 : chkFd Try.prog ls43 Try.f43 f43 = true := by kernel_rfl
theorem c44 : chkFd Try.prog ls44 Try.f44 f44 = true := by kernel_rfl
theorem c41 : chkFd Try.prog ls41 Try.f41 f41 = true := by kernel_rfl
theorem c38 : chkFd Try.prog ls38 Try.f38 f38 = true := by kernel_rfl
theorem c46 : chkFd Try.prog ls46 Try.f46 f46 = true := by kernel_rfl
theorem c45 : chkFd Try.prog ls45 Try.f45 f45 = true := by kernel_rfl
theorem c16 : chkFd Try.prog ls16 Try.f16 f16 = true := by kernel_rfl
theorem c15 : chkFd Try.prog ls15 Try.f15 f15 = true := by kernel_rfl
theorem c78 : chkFd Try.prog ls78 Try.f78 f78 = true := by kernel_rfl
theorem c28 : chkFd Try.prog ls28 Try.f28 f28 = true := by kernel_rfl
theorem c69 : chkFd Try.prog ls69 Try.f69 f69 = true := by kernel_rfl
theorem c66 : chkFd Try.prog ls66 Try.f66 f66 = true := by kernel_rfl
theorem c80 : chkFd Try.prog ls80 Try.f80 f80 = true := by kernel_rfl
theorem c81 : chkFd Try.prog ls81 Try.f81 f81 = true := by kernel_rfl
theorem c79 : chkFd Try.prog ls79 Try.f79 f79 = true := by kernel_rfl
theorem c49 : chkFd Try.prog ls49 Try.f49 f49 = true := by kernel_rfl
theorem c96 : chkFd Try.prog ls96 Try.f96 f96 = true := by kernel_rfl
theorem c60 : chkFd Try.prog ls60 Try.f60 f60 = true := by kernel_rfl
theorem c62 : chkFd Try.prog ls62 Try.f62 f62 = true := by kernel_rfl
theorem c97 : chkFd Try.prog ls97 Try.f97 f97 = true := by kernel_rfl
theorem c91 : chkFd Try.prog ls91 Try.f91 f91 = true := by kernel_rfl
theorem c98 : chkFd Try.prog ls98 Try.f98 f98 = true := by kernel_rfl
theorem c17 : chkFd Try.prog ls17 Try.f17 f17 = true := by kernel_rfl
theorem c99 : chkFd Try.prog ls99 Try.f99 f99 = true := by kernel_rfl
theorem c37 : chkFd Try.prog ls37 Try.f37 f37 = true := by kernel_rfl
theorem c100 : chkFd Try.prog ls100 Try.f100 f100 = true := by kernel_rfl
theorem c102 : chkFd Try.prog ls102 Try.f102 f102 = true := by kernel_rfl
theorem c103 : chkFd Try.prog ls103 Try.f103 f103 = true := by kernel_rfl
theorem c104 : chkFd Try.prog ls104 Try.f104 f104 = true := by kernel_rfl
theorem c105 : chkFd Try.prog ls105 Try.f105 f105 = true := by kernel_rfl
theorem c21 : chkFd Try.prog ls21 Try.f21 f21 = true := by kernel_rfl
theorem c25 : chkFd Try.prog ls25 Try.f25 f25 = true := by kernel_rfl
theorem c35 : chkFd Try.prog ls35 Try.f35 f35 = true := by kernel_rfl
theorem c89 : chkFd Try.prog ls89 Try.f89 f89 = true := by kernel_rfl
theorem c90 : chkFd Try.prog ls90 Try.f90 f90 = true := by kernel_rfl
theorem c111 : chkFd Try.prog ls111 Try.f111 f111 = true := by kernel_rfl
theorem c112 : chkFd Try.prog ls112 Try.f112 f112 = true := by kernel_rfl
theorem c82 : chkFd Try.prog ls82 Try.f82 f82 = true := by kernel_rfl
theorem c50 : chkFd Try.prog ls50 Try.f50 f50 = true := by kernel_rfl
theorem c51 : chkFd Try.prog ls51 Try.f51 f51 = true := by kernel_rfl
theorem c64 : chkFd Try.prog ls64 Try.f64 f64 = true := by kernel_rfl
theorem c67 : chkFd Try.prog ls67 Try.f67 f67 = true := by kernel_rfl
theorem c77 : chkFd Try.prog ls77 Try.f77 f77 = true := by kernel_rfl
theorem c26 : chkFd Try.prog ls26 Try.f26 f26 = true := by kernel_rfl
theorem c115 : chkFd Try.prog ls115 Try.f115 f115 = true := by kernel_rfl
theorem c116 : chkFd Try.prog ls116 Try.f116 f116 = true := by kernel_rfl
theorem c53 : chkFd Try.prog ls53 Try.f53 f53 = true := by kernel_rfl
theorem c52 : chkFd Try.prog ls52 Try.f52 f52 = true := by kernel_rfl
theorem c54 : chkFd Try.prog ls54 Try.f54 f54 = true := by kernel_rfl
theorem c55 : chkFd Try.prog ls55 Try.f55 f55 = true := by kernel_rfl
theorem c59 : chkFd Try.prog ls59 Try.f59 f59 = true := by kernel_rfl
theorem c61 : chkFd Try.prog ls61 Try.f61 f61 = true := by kernel_rfl
theorem c63 : chkFd Try.prog ls63 Try.f63 f63 = true := by kernel_rfl
theorem c65 : chkFd Try.prog ls65 Try.f65 f65 = true := by kernel_rfl
theorem c117 : chkFd Try.prog ls117 Try.f117 f117 = true := by kernel_rfl
theorem c118 : chkFd Try.prog ls118 Try.f118 f118 = true := by kernel_rfl
theorem c119 : chkFd Try.prog ls119 Try.f119 f119 = true := by kernel_rfl
theorem c113 : chkFd Try.prog ls113 Try.f113 f113 = true := by kernel_rfl
theorem c106 : chkFd Try.prog ls106 Try.f106 f106 = true := by kernel_rfl
theorem c83 : chkFd Try.prog ls83 Try.f83 f83 = true := by kernel_rfl
theorem c85 : chkFd Try.prog ls85 Try.f85 f85 = true := by kernel_rfl
theorem c93 : chkFd Try.prog ls93 Try.f93 f93 = true := by kernel_rfl
theorem c92 : chkFd Try.prog ls92 Try.f92 f92 = true := by kernel_rfl
theorem c86 : chkFd Try.prog ls86 Try.f86 f86 = true := by kernel_rfl
theorem c95 : chkFd Try.prog ls95 Try.f95 f95 = true := by kernel_rfl
theorem c24 : chkFd Try.prog ls24 Try.f24 f24 = true := by kernel_rfl
theorem c84 : chkFd Try.prog ls84 Try.f84 f84 = true := by kernel_rfl
theorem c88 : chkFd Try.prog ls88 Try.f88 f88 = true := by kernel_rfl
theorem c120 : chkFd Try.prog ls120 Try.f120 f120 = true := by kernel_rfl
theorem c108 : chkFd Try.prog ls108 Try.f108 f108 = true := by kernel_rfl
theorem c110 : chkFd Try.prog ls110 Try.f110 f110 = true := by kernel_rfl
theorem c109 : chkFd Try.prog ls109 Try.f109 f109 = true := by kernel_rfl
theorem c58 : chkFd Try.prog ls58 Try.f58 f58 = true := by kernel_rfl
theorem c107 : chkFd Try.prog ls107 Try.f107 f107 = true := by kernel_rfl
theorem c87 : chkFd Try.prog ls87 Try.f87 f87 = true := by kernel_rfl
theorem fOk : FOk Try.prog FT := FOk.of (by
  exact ⟨trivial, ⟨trivial, ⟨trivial, ⟨trivial, ⟨fok rfl Try.func15 c15, ⟨trivial, ⟨fok rfl Try.func63 c63, trivial, trivial⟩, ⟨fok rfl Try.func95 c95, trivial, trivial⟩⟩, ⟨trivial, ⟨fok rfl Try.func79 c79, trivial, trivial⟩, ⟨fok rfl Try.func111 c111, trivial, trivial⟩⟩⟩, ⟨trivial, ⟨trivial, trivial, ⟨fok rfl Try.func103 c103, trivial, trivial⟩⟩, ⟨fok rfl Try.func55 c55, ⟨fok rfl Try.func87 c87, trivial, trivial⟩, ⟨fok rfl Try.func119 c119, trivial, trivial⟩⟩⟩⟩, ⟨trivial, ⟨trivial, ⟨fok rfl Try.func35 c35, ⟨fok rfl Try.func67 c67, trivial, trivial⟩, ⟨fok rfl Try.func99 c99, trivial, trivial⟩⟩, ⟨fok rfl Try.func51 c51, ⟨fok rfl Try.func83 c83, trivial, trivial⟩, ⟨fok rfl Try.func115 c115, trivial, trivial⟩⟩⟩, ⟨trivial, ⟨fok rfl Try.func43 c43, trivial, ⟨fok rfl Try.func107 c107, trivial, trivial⟩⟩, ⟨fok rfl Try.func59 c59, ⟨fok rfl Try.func91 c91, trivial, trivial⟩, trivial⟩⟩⟩⟩, ⟨trivial, ⟨trivial, ⟨fok rfl Try.func17 c17, ⟨trivial, ⟨fok rfl Try.func65 c65, trivial, trivial⟩, ⟨fok rfl Try.func97 c97, trivial, trivial⟩⟩, ⟨fok rfl Try.func49 c49, ⟨fok rfl Try.func81 c81, trivial, trivial⟩, ⟨fok rfl Try.func113 c113, trivial, trivial⟩⟩⟩, ⟨fok rfl Try.func25 c25, ⟨fok rfl Try.func41 c41, trivial, ⟨fok rfl Try.func105 c105, trivial, trivial⟩⟩, ⟨trivial, ⟨fok rfl Try.func89 c89, trivial, trivial⟩, trivial⟩⟩⟩, ⟨trivial, ⟨fok rfl Try.func21 c21, ⟨fok rfl Try.func37 c37, ⟨fok rfl Try.func69 c69, trivial, trivial⟩, ⟨prim101, trivial, trivial⟩⟩, ⟨fok rfl Try.func53 c53, ⟨fok rfl Try.func85 c85, trivial, trivial⟩, ⟨fok rfl Try.func117 c117, trivial, trivial⟩⟩⟩, ⟨trivial, ⟨fok rfl Try.func45 c45, ⟨fok rfl Try.func77 c77, trivial, trivial⟩, ⟨fok rfl Try.func109 c109, trivial, trivial⟩⟩, ⟨fok rfl Try.func61 c61, ⟨fok rfl Try.func93 c93, trivial, trivial⟩, trivial⟩⟩⟩⟩⟩, ⟨trivial, ⟨trivial, ⟨trivial, ⟨fok rfl Try.func16 c16, ⟨trivial, ⟨fok rfl Try.func64 c64, trivial, trivial⟩, ⟨fok rfl Try.func96 c96, trivial, trivial⟩⟩, ⟨trivial, ⟨fok rfl Try.func80 c80, trivial, trivial⟩, ⟨fok rfl Try.func112 c112, trivial, trivial⟩⟩⟩, ⟨fok rfl Try.func24 c24, ⟨trivial, trivial, ⟨fok rfl Try.func104 c104, trivial, trivial⟩⟩, ⟨trivial, ⟨fok rfl Try.func88 c88, trivial, trivial⟩, ⟨fok rfl Try.func120 c120, trivial, trivial⟩⟩⟩⟩, ⟨trivial, ⟨trivial, ⟨trivial, trivial, ⟨fok rfl Try.func100 c100, trivial, trivial⟩⟩, ⟨fok rfl Try.func52 c52, ⟨fok rfl Try.func84 c84, trivial, trivial⟩, ⟨fok rfl Try.func116 c116, trivial, trivial⟩⟩⟩, ⟨fok rfl Try.func28 c28, ⟨fok rfl Try.func44 c44, trivial, ⟨fok rfl Try.func108 c108, trivial, trivial⟩⟩, ⟨fok rfl Try.func60 c60, ⟨fok rfl Try.func92 c92, trivial, trivial⟩, trivial⟩⟩⟩⟩, ⟨trivial, ⟨trivial, ⟨trivial, ⟨trivial, ⟨fok rfl Try.func66 c66, trivial, trivial⟩, ⟨fok rfl Try.func98 c98, trivial, trivial⟩⟩, ⟨fok rfl Try.func50 c50, ⟨fok rfl Try.func82 c82, trivial, trivial⟩, ⟨prim114, trivial, trivial⟩⟩⟩, ⟨fok rfl Try.func26 c26, ⟨trivial, trivial, ⟨fok rfl Try.func106 c106, trivial, trivial⟩⟩, ⟨fok rfl Try.func58 c58, ⟨fok rfl Try.func90 c90, trivial, trivial⟩, trivial⟩⟩⟩, ⟨fok rfl Try.func14 c14, ⟨trivial, ⟨fok rfl Try.func38 c38, trivial, ⟨fok rfl Try.func102 c102, trivial, trivial⟩⟩, ⟨fok rfl Try.func54 c54, ⟨fok rfl Try.func86 c86, trivial, trivial⟩, ⟨fok rfl Try.func118 c118, trivial, trivial⟩⟩⟩, ⟨trivial, ⟨fok rfl Try.func46 c46, ⟨fok rfl Try.func78 c78, trivial, trivial⟩, ⟨fok rfl Try.func110 c110, trivial, trivial⟩⟩, ⟨fok rfl Try.func62 c62, trivial, trivial⟩⟩⟩⟩⟩⟩)
theorem mixed : Try.prog.follows .mixedOrders = true := by kernel_rfl
end Go.Proofs.Ythdlkpmhjbaplaa.Dx
namespace Go.Proofs.Ythdlkpmhjbaplaa.Dx
open Go Go.ChangeShapes Go.WideShapes
theorem encM_flat : ∀ l : List Mono, encM l = l.flatMap fun m => [.int .i64 m.v, .int .i64 m.k]
  | [] => rfl
  | m :: l => by rw [List.flatMap_cons, ← encM_flat l]; rfl
theorem encC_flat : ∀ l : List Cons, encC l = l.flatMap cC
  | [] => rfl
  | m :: l => by rw [List.flatMap_cons, ← encC_flat l]; rfl
theorem encI_flat : ∀ l : List Int, encI l = l.flatMap fun n => [.int .i64 n]
  | [] => rfl
  | m :: l => by rw [List.flatMap_cons, ← encI_flat l]; rfl
def okI (n : Int) : Prop := -9223372036854775808 ≤ n ∧ n ≤ 9223372036854775807
theorem okI_wf {n : Int} (h : (Lit.int .i64 n).wf = true) : okI n := by simpa [Lit.wf, IntKind.min, IntKind.max, IntKind.signed, IntKind.bits, okI] using h
def okMono (m : Mono) : Prop := okI m.v ∧ okI m.k
def okMonos (l : List Mono) : Prop := l.length ≤ maxLen ∧ ∀ x ∈ l, okMono x
def okTerm (t : Term) : Prop := okI t.c ∧ okMonos t.l
def okCon (x : Cons) : Prop := okTerm x.t
def okCons (l : List Cons) : Prop := l.length ≤ maxLen ∧ ∀ x ∈ l, okCon x
def okInts (l : List Int) : Prop := l.length ≤ maxLen ∧ ∀ x ∈ l, okI x
theorem cells29 : Try.prog.cellsOf 29 = 2 := by kernel_rfl
theorem cells3 : Try.prog.cellsOf 3 = 1 := by kernel_rfl
theorem cells4 : Try.prog.cellsOf 4 = 1 := by kernel_rfl
theorem cells27 : Try.prog.cellsOf 27 = 1 := by kernel_rfl
theorem cells31 : Try.prog.cellsOf 31 = 3 := by kernel_rfl
theorem cells33 : Try.prog.cellsOf 33 = 2 := by kernel_rfl
section
variable {H : Type} {enc : TypeId × Value → H} {w : World}
theorem rd3 : RdOk enc Try.prog w 3 1 (fun n : Int => [.int .i64 n]) okI := (RdOk.int Try.underlying3).map id (fun _ => rfl) (fun _ h => okI_wf h)
theorem rd33 : RdOk enc Try.prog w 33 2 (fun m : Mono => [.int .i64 m.v, .int .i64 m.k]) okMono :=
  (RdOk.pair Try.underlying33 rd3 rd3 rfl rfl cells3 cells3 cells33).map (fun x : Int × Int => (⟨x.1, x.2⟩ : Mono)) (fun _ => rfl) (fun _ h => h)
theorem rd27 (hw : 0 < w.heap.size) : RdOk enc Try.prog w 27 1 (fun l : List Mono => [vMs l]) okMonos :=
  (RdOk.slice Try.underlying27 rd33 cells33 (by decide) hw).map id (fun l => by unfold vMs; rw [encM_flat]; rfl) (fun _ h => h)
theorem rd29 (hw : 0 < w.heap.size) : RdOk enc Try.prog w 29 2 (fun t : Term => cT t) okTerm :=
  (RdOk.pair Try.underlying29 rd3 (rd27 hw) rfl rfl cells3 cells27 cells29).map (fun x : Int × List Mono => (⟨x.1, x.2⟩ : Term)) (fun _ => rfl) (fun _ h => h)
theorem rd31 (hw : 0 < w.heap.size) : RdOk enc Try.prog w 31 3 (fun x : Cons => cC x) okCon :=
  (RdOk.pair Try.underlying31 (rd29 hw) (RdOk.bool Try.underlying4) rfl rfl cells29 cells4 cells31).map (fun x : Term × Bool => (⟨x.1, x.2⟩ : Cons)) (fun _ => rfl) (fun _ h => h.1)
theorem rd22 (hw : 0 < w.heap.size) : RdOk enc Try.prog w 22 1 (fun l : List Cons => [vCs l]) okCons :=
  (RdOk.slice Try.underlying22 (rd31 hw) cells31 (by decide) hw).map id (fun l => by unfold vCs; rw [encC_flat]; rfl) (fun _ h => h)
theorem rd40 (hw : 0 < w.heap.size) : RdOk enc Try.prog w 40 1 (fun l : List Int => [vIs l]) okInts :=
  (RdOk.slice Try.underlying40 rd3 cells3 (by decide) hw).map id (fun l => by unfold vIs; rw [encI_flat]; rfl) (fun _ h => h)
def Arg1 (w : World) (v' : Value) {α : Type} (V : α → VV) (ok : α → Prop) : Prop :=
  ∃ a : α, ok a ∧ ∀ s, LayOk w s → ∃ s' d, LayOk w s' ∧ LayLe s s' ∧ VR s'.j d v' ∧ XRs s'.Z s'.h none [V a] [d]
def ArgsL (w : World) (vs : List Value) (args : List VV) : Prop := ∀ s, LayOk w s → ∃ s' ds, LayOk w s' ∧ LayLe s s' ∧ VRt s'.j ds vs ∧ XRs s'.Z s'.h none args ds
theorem ArgsL.nil : ArgsL w [] [] := fun s hs => ⟨s, [], hs, LayLe.refl s, .nil, .nil⟩
theorem ArgsL.cons {v' : Value} {v : VV} {vs : List Value} {args : List VV} (h : ∀ s, LayOk w s → ∃ s' d, LayOk w s' ∧ LayLe s s' ∧ VR s'.j d v' ∧ XRs s'.Z s'.h none [v] [d]) (t : ArgsL w vs args) : ArgsL w (v' :: vs) (v :: args) := by
  intro s hs
  obtain ⟨s1, d, a1, a2, a3, a4⟩ := h s hs
  obtain ⟨s2, ds, b1, b2, b3, b4⟩ := t s1 a1
  exact ⟨s2, d :: ds, b1, a2.trans b2, .cons (a3.mono b2.ext) b3, (b2.xrs a4).append b4⟩
theorem arg_int {n : Int} : ∀ s, LayOk w s → ∃ s' d, LayOk w s' ∧ LayLe s s' ∧ VR s'.j d (.int .i64 n) ∧ XRs s'.Z s'.h none [.int .i64 n] [d] := fun s hs => ⟨s, .int .i64 n, hs, LayLe.refl s, .int _ _, .cons (.int _ _) .nil⟩
theorem arg_slice {t e : TypeId} {α : Type} {V : α → VV} {ok : α → Prop} (ht : Try.prog.underlying t = some (.slice e)) (R : RdOk enc Try.prog w t 1 (fun a => [V a]) ok) {r : Reach} {base : Nat} {v : Value} (hval : Value.okWide Try.prog w r base t v) {d : DataW H} {ps : List MemPlace}
    (hd : DataW.Trod enc Try.prog w 0 (fun _ => true) true t v d ps) : Arg1 w v V ok := by
  obtain ⟨fuel, hf⟩ := hd
  have hv : ∃ a n c, v = .slice a n c := by
    unfold Value.okWide at hval
    rw [ht] at hval
    simp only [] at hval
    unfold Cell.okWide at hval
    rw [ht] at hval
    split at hval <;> simp_all [Cell.ok]
    split at hval <;> simp_all
  obtain ⟨a, n, c, rfl⟩ := hv
  obtain ⟨x, hx, X⟩ := R _ _ _ hf
  refine ⟨x, hx, fun s hs => ?_⟩
  obtain ⟨s', ds, h1, h2, h3, h4, h5⟩ := X s hs
  have h3' : VRs s'.j ds [.slice a n c] := h3
  cases h3' with
  | cons g1 g2 g3 => cases g3; exact ⟨s', _, h1, h2, g1, h5⟩
end
theorem some_heap : decide (Try.prog.globals.size < (begin Try.prog (fun _ _ => 0) default).world.heap.size) = true := by kernel_rfl
theorem heap_pos {w : World} (h : w.ShapedOpen Try.prog) : 0 < w.heap.size := by
  have h2 := h.2 Try.prog.globals.size (Nat.le_refl _) (of_decide_eq_true some_heap)
  obtain ⟨o, _, h3, _⟩ := h2
  have := (Array.getElem?_eq_some_iff.1 h3).1
  omega
theorem kids : Kids Try.prog (· < Try.prog.types.size) := kids_rows (by kernel_rfl) (by kernel_rfl)
theorem slices_full : ∀ t e, t < Try.prog.types.size → Try.prog.underlying t = some (.slice e) → 0 < Try.prog.cellsOf e := slices_full_of Try.prog (by kernel_rfl)
end Go.Proofs.Ythdlkpmhjbaplaa.Dx
