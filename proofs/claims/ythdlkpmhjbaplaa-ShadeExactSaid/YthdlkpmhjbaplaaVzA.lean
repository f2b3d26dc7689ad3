/- How what a caller hands in is read, as the value machine reads it. No statement of this seat is proved here. -/
import Derived.Test.YthdlkpmhjbaplaaVxI
import Derived.Test.YthdlkpmhjbaplaaDxAM
import Derived.ChangeSame
import Derived.ChangeArms
import Derived.ReadAgain
import Derived.RowKit
set_option autoImplicit false
set_option linter.unusedSimpArgs false
set_option linter.unusedVariables false
namespace Go.Proofs.Ythdlkpmhjbaplaa.Dx
open Go Go.ChangeShapes Go.WideShapes

/-- Blocks of a caller's, as the small machine holds them: read, never written. -/
structure Lay where
  nx : P
  h : Hp
  j : J
structure LayOk (w : World) (s : Lay) : Prop where
  ro : ∀ k i, s.j k = some i → k.n < s.nx.n ∧ ∃ b q l, i = .ro b q ∧ Tr.get? k s.h = some (.ro l) ∧ b < w.heap.size ∧ CellsAt s.j w b q l
  top : ∀ k : P, s.nx.n ≤ k.n → Tr.get? k s.h = none
structure LayLe (s s' : Lay) : Prop where
  nx : s.nx.n ≤ s'.nx.n
  j : ∀ k i, s.j k = some i → s'.j k = some i
  h : ∀ k : P, k.n < s.nx.n → Tr.get? k s'.h = Tr.get? k s.h
def Lay.Z (s : Lay) : P → Prop := fun k => k.n < s.nx.n
theorem LayLe.refl (s : Lay) : LayLe s s := ⟨Nat.le_refl _, fun _ _ h => h, fun _ _ => rfl⟩
theorem LayLe.trans {a b c : Lay} (x : LayLe a b) (y : LayLe b c) : LayLe a c := ⟨Nat.le_trans x.nx y.nx, fun k i h => y.j k i (x.j k i h), fun k h => (y.h k (Nat.lt_of_lt_of_le h x.nx)).trans (x.h k h)⟩
theorem LayLe.ext {a b : Lay} (x : LayLe a b) : Ext a.j b.j := fun k i h => .inl (x.j k i h)
theorem LayLe.xrs {a b : Lay} (x : LayLe a b) {l : List VV} {d : List DV} (r : XRs a.Z a.h none l d) : XRs b.Z b.h none l d :=
  XRs.mono (fun k h => Nat.lt_of_lt_of_le h x.nx) (fun k h => objAt_of (x.h k h)) (MLe.refl _) r

section
variable {H : Type} (enc : TypeId × Value → H) (P : Program) (w : World)

/-- What reads as the type says is told by 'E' of something. -/
def RdOk (t : TypeId) (sz : Nat) {α : Type} (E : α → List VV) (ok : α → Prop) : Prop :=
  ∀ (fuel : Nat) (cs : List Value) (x : DataW H × List MemPlace), DataW.trod enc P w 0 (fun _ => true) true fuel t cs = some x →
    ∃ a : α, ok a ∧ ∀ s, LayOk w s → ∃ s' ds, LayOk w s' ∧ LayLe s s' ∧ VRs s'.j ds cs ∧ ds.length = sz ∧ XRs s'.Z s'.h none (E a) ds
variable {enc P w}

theorem RdOk.map {t : TypeId} {sz : Nat} {α β : Type} {E : α → List VV} {ok : α → Prop} {E' : β → List VV} {ok' : β → Prop} (R : RdOk enc P w t sz E ok) (f : α → β) (hE : ∀ a, E' (f a) = E a) (ho : ∀ a, ok a → ok' (f a)) : RdOk enc P w t sz E' ok' := by
  intro fuel cs x hx
  obtain ⟨a, h1, h2⟩ := R fuel cs x hx
  refine ⟨f a, ho a h1, ?_⟩
  rw [hE]; exact h2
theorem RdOk.int {t : TypeId} {k : IntKind} (ht : P.underlying t = some (.int k)) : RdOk enc P w t 1 (fun n : Int => [.int k n]) (fun n => (Lit.int k n).wf = true) := by
  intro fuel cs x hx
  obtain ⟨n, rfl, rfl, hw⟩ := DataW.trod_int ht hx
  exact ⟨n, hw, fun s hs => ⟨s, [.int k n], hs, LayLe.refl s, .cons (.int k n) rfl .nil, rfl, .cons (.int k n) .nil⟩⟩
theorem RdOk.bool {t : TypeId} (ht : P.underlying t = some .bool) : RdOk enc P w t 1 (fun b : Bool => [.bool b]) (fun _ => True) := by
  intro fuel cs x hx
  obtain ⟨b, rfl, rfl⟩ := DataW.trod_bool ht hx
  exact ⟨b, trivial, fun s hs => ⟨s, [.bool b], hs, LayLe.refl s, .cons (.bool b) rfl .nil, rfl, .cons (.bool b) .nil⟩⟩
theorem RdOk.pair {t : TypeId} {f0 f1 : Field} {s0 s1 : Nat} {α β : Type} {E0 : α → List VV} {E1 : β → List VV} {ok0 : α → Prop} {ok1 : β → Prop} (ht : P.underlying t = some (.struct #[f0, f1]))
    (R0 : RdOk enc P w f0.type s0 E0 ok0) (R1 : RdOk enc P w f1.type s1 E1 ok1) (h0 : f0.offset = 0) (h1 : f1.offset = s0) (c0 : P.cellsOf f0.type = s0) (c1 : P.cellsOf f1.type = s1) (ct : P.cellsOf t = s0 + s1) :
    RdOk enc P w t (s0 + s1) (fun x : α × β => E0 x.1 ++ E1 x.2) (fun x => ok0 x.1 ∧ ok1 x.2) := by
  intro fuel cs x hx
  obtain ⟨y0, y1, n, rfl, hl, hr0, hr1⟩ := trod_struct2 ht hx
  rw [h0, c0, List.drop_zero] at hr0
  rw [h1, c1] at hr1
  obtain ⟨a, ha, A⟩ := R0 _ _ _ hr0
  obtain ⟨b, hb, B⟩ := R1 _ _ _ hr1
  refine ⟨(a, b), ⟨ha, hb⟩, fun s hs => ?_⟩
  obtain ⟨sa, da, a1, a2, a3, a4, a5⟩ := A s hs
  obtain ⟨sb, db, b1, b2, b3, b4, b5⟩ := B sa a1
  refine ⟨sb, da ++ db, b1, a2.trans b2, ?_, by simp [a4, b4], (b2.xrs a5).append b5⟩
  have e : cs = cs.take s0 ++ (cs.drop s0).take s1 := by
    have : (cs.drop s0).take s1 = cs.drop s0 := List.take_of_length_le (by simp; omega)
    rw [this, List.take_append_drop]
  rw [e]
  exact (a3.mono b2.ext).append b3

/-! ### A row -/

theorem cell_add {a : Addr} {m q : Nat} {v : Value} (h : w.cell? ((a.add m).add q) = some v) : w.cell? ⟨a.block, a.off + (m + q), none⟩ = some v := by
  have hs : ((a.add m).add q).spot = none := by
    cases hsp : ((a.add m).add q).spot with
    | none => rfl
    | some s =>
      simp only [World.cell?] at h
      split at h
      · simp [hsp] at h
      · cases h
  have e : (a.add m).add q = ⟨a.block, a.off + (m + q), none⟩ := by
    have e1 : ((a.add m).add q).block = a.block := by unfold Addr.add; split <;> split <;> rfl
    have e2 : ((a.add m).add q).off = a.off + (m + q) := by unfold Addr.add; split <;> split <;> simp_all [Nat.add_assoc]
    rw [← e1, ← e2, ← hs]
  rw [e] at h; exact h
theorem spot_none {a : Addr} {v : Value} (h : w.cell? ((a.add 0).add 0) = some v) : a = ⟨a.block, a.off, none⟩ := by
  have e : (a.add 0).add 0 = a := by simp [Addr.add]
  rw [e] at h
  have hs : a.spot = none := by
    cases hsp : a.spot with
    | none => rfl
    | some s =>
      simp only [World.cell?] at h
      split at h
      · simp [hsp] at h
      · cases h
  rw [← hs]
theorem cells_get {a : Addr} {n : Nat} {cs : List Value} (h : w.cells? 0 a n = some cs) : cs.length = n ∧ ∀ (q : Nat) (v : Value), cs[q]? = some v → w.cell? (a.add q) = some v := by
  unfold World.cells? at h
  rw [if_pos (Nat.zero_le _)] at h
  have hl : cs.length = n := by simpa using mapM_some_length h
  refine ⟨hl, fun q v hv => ?_⟩
  have hq : q < n := by
    have := (List.getElem?_eq_some_iff.1 hv).1; omega
  rw [mapM_some_get h q q (by simp [hq]), hv]

theorem RdOk.elems {e : TypeId} {sz : Nat} {α : Type} {E : α → List VV} {ok : α → Prop} (R : RdOk enc P w e sz E ok) {a : Addr} {fuel : Nat} {len : Nat} {elems : List (DataW H × List MemPlace)} (hlen : elems.length = len)
    (hr : ∀ i, i < len → (w.cells? 0 (a.add (i * sz)) sz).bind (DataW.trod enc P w 0 (fun _ => true) true fuel e) = elems[i]?) :
    ∀ m, m ≤ len → ∃ (l : List α) (css : List Value), l.length = m ∧ (∀ x ∈ l, ok x) ∧ css.length = m * sz ∧ (∀ (i : Nat) (v : Value), css[i]? = some v → w.cell? ⟨a.block, a.off + i, none⟩ = some v) ∧ (0 < m → 0 < sz → a = ⟨a.block, a.off, none⟩) ∧
      ∀ s, LayOk w s → ∃ s' ds, LayOk w s' ∧ LayLe s s' ∧ VRs s'.j ds css ∧ ds.length = m * sz ∧ XRs s'.Z s'.h none (l.flatMap E) ds
  | 0, _ => ⟨[], [], rfl, by simp, by simp, by simp, fun h => absurd h (by omega), fun s hs => ⟨s, [], hs, LayLe.refl s, .nil, by simp, .nil⟩⟩
  | m + 1, hm => by
    obtain ⟨l, css, h1, h2, h3, h4, h5, h6⟩ := RdOk.elems R hlen hr m (by omega)
    have hx := hr m (by omega)
    rw [List.getElem?_eq_getElem (by omega)] at hx
    obtain ⟨cs, hc, hy⟩ := Option.bind_eq_some_iff.1 hx
    obtain ⟨hcl, hcg⟩ := cells_get hc
    obtain ⟨x, hxo, X⟩ := R _ _ _ hy
    refine ⟨l ++ [x], css ++ cs, by simp [h1], ?_, by simp [h3, hcl, Nat.add_mul], ?_, ?_, ?_⟩
    · intro y hy
      rcases List.mem_append.1 hy with hy | hy
      · exact h2 y hy
      · simp at hy; subst hy; exact hxo
    · intro i v hv
      by_cases hi : i < m * sz
      · rw [List.getElem?_append_left (by omega)] at hv; exact h4 i v hv
      · rw [List.getElem?_append_right (by omega)] at hv
        have := cell_add (hcg _ _ hv)
        rw [show a.off + (m * sz + (i - css.length)) = a.off + i by omega] at this
        exact this
    · intro _ hs
      by_cases h0 : 0 < m
      · exact h5 h0 hs
      · obtain rfl : m = 0 := by omega
        have hv : cs[0]? = some cs[0] := List.getElem?_eq_getElem (by omega)
        have := hcg 0 _ hv
        rw [Nat.zero_mul] at this
        exact spot_none this
    · intro s hs
      obtain ⟨s1, d1, a1, a2, a3, a4, a5⟩ := h6 s hs
      obtain ⟨s2, d2, b1, b2, b3, b4, b5⟩ := X s1 a1
      refine ⟨s2, d1 ++ d2, b1, a2.trans b2, (a3.mono b2.ext).append b3, by simp [a4, b4, Nat.add_mul], ?_⟩
      rw [List.flatMap_append, List.flatMap_cons, List.flatMap_nil, List.append_nil]
      exact (b2.xrs a5).append b5

/-- One more block. -/
theorem LayOk.push {s : Lay} (hs : LayOk w s) {b q : Nat} {ds : List DV} (hb : b < w.heap.size) (hc : CellsAt s.j w b q ds) :
    LayOk w ⟨s.nx.suc, Tr.set s.nx s.h (some (.ro ds)), s.j.put s.nx (.ro b q)⟩ ∧ LayLe s ⟨s.nx.suc, Tr.set s.nx s.h (some (.ro ds)), s.j.put s.nx (.ro b q)⟩ := by
  have hnone : s.j s.nx = none := by
    cases hj : s.j s.nx with
    | none => rfl
    | some i => exact absurd (hs.ro _ _ hj).1 (Nat.lt_irrefl _)
  have ne : ∀ k : Dx.P, k.n < s.nx.n → k ≠ s.nx := fun k hk e => by rw [e] at hk; exact Nat.lt_irrefl _ hk
  have le : LayLe s ⟨s.nx.suc, Tr.set s.nx s.h (some (.ro ds)), s.j.put s.nx (.ro b q)⟩ := by
    refine ⟨by rw [Dx.P.n_suc]; omega, fun k i h => ?_, fun k hk => ?_⟩
    · show (s.j.put s.nx (.ro b q)) k = some i
      rw [J.put_ne _ (ne k (hs.ro k i h).1)]; exact h
    · show Tr.get? k (Tr.set s.nx s.h (some (.ro ds))) = _
      rw [Tr.get_set, if_neg (ne k hk)]
  refine ⟨⟨fun k i hk => ?_, fun k hk => ?_⟩, le⟩
  · by_cases e : k = s.nx
    · subst e
      have hk' : i = .ro b q := by
        have := J.put_self s.j s.nx (.ro b q)
        exact (Option.some.inj (hk.symm.trans this))
      exact ⟨by rw [Dx.P.n_suc]; omega, b, q, ds, hk', by rw [Tr.get_set, if_pos rfl], hb, hc.mono le.ext⟩
    · have hk' : s.j k = some i := by
        have := J.put_ne s.j e (.ro b q)
        exact this.symm.trans hk
      obtain ⟨g1, b', q', l', g2, g3, g4, g5⟩ := hs.ro k i hk'
      exact ⟨by rw [Dx.P.n_suc]; omega, b', q', l', g2, by rw [Tr.get_set, if_neg e]; exact g3, g4, g5.mono le.ext⟩
  · rw [Dx.P.n_suc] at hk
    have e : k ≠ s.nx := by intro e; subst e; omega
    rw [Tr.get_set, if_neg e]; exact hs.top k (by omega)

theorem RdOk.slice {t e : TypeId} {sz : Nat} {α : Type} {E : α → List VV} {ok : α → Prop} (ht : P.underlying t = some (.slice e)) (R : RdOk enc P w e sz E ok) (hsz : P.cellsOf e = sz) (hp : 0 < sz) (hw : 0 < w.heap.size) :
    RdOk enc P w t 1 (fun l : List α => [.fz l.length none sz (l.flatMap E)]) (fun l => l.length ≤ maxLen ∧ ∀ x ∈ l, ok x) := by
  intro fuel cs x hx
  rcases DataW.trod_slice ht hx with ⟨rfl, rfl⟩ | ⟨a, len, cap, elems, rest, n, rfl, rfl, rfl, hb, hle, hmax, hlen, hr, _, _⟩
  · exact ⟨[], ⟨by simp, by simp⟩, fun s hs => ⟨s, [.nils], hs, LayLe.refl s, .cons .nils rfl .nil, rfl, .cons (.fz0 (.inl rfl)) .nil⟩⟩
  · rw [hsz] at hr
    obtain ⟨l, css, h1, h2, h3, h4, h5, h6⟩ := R.elems hlen hr len (Nat.le_refl _)
    refine ⟨l, ⟨by omega, h2⟩, fun s hs => ?_⟩
    obtain ⟨s1, d1, a1, a2, a3, a4, a5⟩ := h6 s hs
    have hone : ∀ (b q : Nat), b < w.heap.size → CellsAt s1.j w b q d1 → (∀ j' : J, j' s1.nx = some (.ro b q) → VR j' (.sl s1.nx 0 len none sz) (.slice (some a) len cap)) →
        ∃ s' ds, LayOk w s' ∧ LayLe s s' ∧ VRs s'.j ds [.slice (some a) len cap] ∧ ds.length = 1 ∧ XRs s'.Z s'.h none [.fz l.length none sz (l.flatMap E)] ds := by
      intro b q hb' hc hv
      obtain ⟨k1, k2⟩ := a1.push hb' hc
      refine ⟨_, [.sl s1.nx 0 len none sz], k1, a2.trans k2, .cons (hv _ (J.put_self _ _ _)) rfl .nil, rfl, .cons ?_ .nil⟩
      have hx := k2.xrs a5
      have hlen2 : (l.flatMap E).length = len * sz := by rw [← a4]; exact a5.length
      rw [h1]
      refine .fz (cells := d1) hlen2 (show s1.nx.n < (s1.nx.suc).n by rw [Dx.P.n_suc]; omega) (by unfold objAt; rw [Tr.get_set, if_pos rfl]) (by omega) ?_ (fun x h => by cases h) (fun x h => by cases h)
      rw [List.drop_zero, List.take_of_length_le (by omega)]
      exact hx
    by_cases h0 : 0 < len
    · have ha := h5 h0 hp
      have hcell : CellsAt s1.j w a.block a.off d1 := by
        intro i v hv
        obtain ⟨v', g1, g2, g3⟩ := a3.get i v hv
        exact ⟨v', h4 i v' g1, g2, g3⟩
      have hbl : a.block < w.heap.size := by
        have hpos : 0 < css.length := by rw [h3]; exact Nat.mul_pos h0 hp
        have hv : css[0]? = some css[0] := List.getElem?_eq_getElem hpos
        have := h4 0 _ hv
        unfold World.cell? at this
        cases hh : w.heap[a.block]? with
        | none => simp only [hh, reduceCtorEq] at this
        | some o => exact (Array.getElem?_eq_some_iff.1 hh).1
      refine hone a.block a.off hbl hcell fun j' hj => ?_
      rw [ha]
      exact VR.slO hj (fun _ => rfl) ⟨hle, fun c h => by cases h⟩
    · obtain rfl : len = 0 := by omega
      have hd : d1 = [] := List.eq_nil_of_length_eq_zero (by rw [a4]; omega)
      subst hd
      refine hone 0 0 hw (fun i v hv => by simp at hv) fun j' hj => VR.slE a hj ⟨hle, fun c h => by cases h⟩ (fun c h => by cases h)
end

/-! ### The law's call -/

def Lay.nil : Lay := ⟨.z, .nl, fun _ => none⟩
theorem Lay.nil_ok (w : World) : LayOk w Lay.nil := ⟨fun k i h => (nomatch h), fun k _ => Tr.get_e k⟩

theorem law_calls {Pr : Program} {F : Tr Fd} (hF : FOk Pr F) (hm : Pr.follows .mixedOrders = true) {f : P} {args : List VV} (H : VPure F f args (.bool true)) {w : World} {s : Lay} (hs : LayOk w s) {ds : List DV} {vs : List Value}
    (hv : VRt s.j ds vs) (hx : XRs s.Z s.h none args ds) : Calls Pr f.n vs.toArray w fun r w' => r = .returned (.bool true) ∧ RowKit.Grown w w' ∧ ∀ i, i < w.heap.size → w'.heap[i]? = w.heap[i]? := by
  have hH : HpR ⟨none, none, s.nx, s.h, s.Z, fun _ => False⟩ 0 0 [] s.nx s.h ⟨s.Z, fun _ => none⟩ := {
    blk := fun k o h => by simp [hget] at h
    own := fun k o r b q h => by simp [hget] at h
    inj := fun k k' o o' r r' b q q' h => by simp [hget] at h
    zlt := fun b h => h
    zold := fun b h => .inl h
    top := hs.top
    keep := fun b _ _ => rfl
    le := Nat.le_refl _
    wm := fun m h => (nomatch h)
    wf := fun m h => (nomatch h) }
  obtain ⟨r, nx', h', x, dnx', dh', g', ⟨fuel, hrun⟩, _, hxr, _, rfl⟩ := H _ s.nx s.h ⟨s.Z, fun _ => none⟩ ds rfl hH hx.none_any
  cases hxr
  have hr := hrun fuel (Nat.le_refl _) .nl okV
  obtain ⟨v1, nx1, h1, hk, hcall, _⟩ := call_sim hF (exec_sound hF hm fuel) (show callK F (exec F fuel) none f ds .nl s.nx s.h okV = .ok .norm (.nd (some (.bool true)) .nl .nl) dnx' dh' from hr)
  change Res.ok .norm (.nd (some v1) .nl .nl) nx1 h1 = _ at hk
  cases hk
  have R : Rel (fun _ => False) 0 dnx'.n s.j (fun _ => none) .nl s.nx s.h { tmps := #[], defers := [] } w := {
    fresh := fun k i h => .inl (hs.ro k i h).1
    heap := fun k i h _ => by
      obtain ⟨_, b, q, l, rfl, g2, g3, g4⟩ := hs.ro k i h
      exact ⟨l, g2, g3, g4⟩
    inj := fun k k' b q c q' c' h => by obtain ⟨_, _, _, _, e, _⟩ := hs.ro k _ h; cases e
    inr := fun k k' b q c q' h => by obtain ⟨_, _, _, _, e, _⟩ := hs.ro k _ h; cases e
    env := fun p v h => by rw [Tr.get_e] at h; cases h
    pvv := fun p b h => nomatch h
    pin := fun p q b h => nomatch h
    pfr := fun p b h => nomatch h
    pfo := fun p b h => nomatch h
    loc := fun p l h => by rw [Tr.get_e] at h; cases h
    size := rfl
    lt := fun k b q c h => by obtain ⟨_, _, _, _, e, _⟩ := hs.ro k _ h; cases e
    lr := fun k b q h => by obtain ⟨_, _, _, _, e, _, g, _⟩ := hs.ro k _ h; cases e; exact g
    top := hs.top }
  refine (hcall _ _ dnx'.n _ _ _ { tmps := #[], defers := [] } w R (Nat.le_refl _) vs hv).mono ?_
  rintro r w' ⟨v', j', rfl, R', F', hv⟩
  cases hv
  have same : ∀ i, i < w.heap.size → w'.heap[i]? = w.heap[i]? := fun i hi => F'.same i hi (fun k q c h => by obtain ⟨_, _, _, _, e, _⟩ := hs.ro k _ h; cases e) (fun p h => nomatch h)
  refine ⟨rfl, ⟨⟨F'.os, F'.output, fun i hi => ?_⟩, F'.froz, F'.size⟩, same⟩
  rw [same i hi]
  cases w.heap[i]? with
  | none => rfl
  | some ob => cases ob <;> simp
/-! ### Read again -/

theorem stays {H : Type} {enc : TypeId × Value → H} {P : Program} {T : TypeId → Prop} (K : Kids P T) (hz : ∀ t e, T t → P.underlying t = some (.slice e) → 0 < P.cellsOf e) {W W' : World} {sp : Nat → Bool} :
    ∀ {ts : List TypeId} {vs : List Value} {ds : List (DataW H)} {ps : List MemPlace}, (∀ t ∈ ts, T t) → DataW.TrodAll enc P W 0 (fun _ => true) true ts vs ds ps → (∀ p ∈ ps, W.sameAt W' p) → (∀ p ∈ ps, sp p.block = true) → DataW.TrodAll enc P W' 0 sp true ts vs ds ps
  | [], [], [], _, _, h, _, _ => h
  | _ :: _, _ :: _, _ :: _, _, hT, ⟨p, q, ⟨n, h1⟩, h2, e⟩, hm, hs =>
    ⟨p, q, ⟨n, DataW.trod_respare K hz n _ _ _ (hT _ (List.mem_cons.2 (Or.inl rfl))) (DataW.trod_carry n _ _ _ h1 (fun x hx => hm x (by rw [e]; exact List.mem_append_left _ hx))) (fun x hx => hs x (by rw [e]; exact List.mem_append_left _ hx))⟩,
      stays K hz (fun t ht => hT t (List.mem_cons.2 (Or.inr ht))) h2 (fun x hx => hm x (by rw [e]; exact List.mem_append_right _ hx)) (fun x hx => hs x (by rw [e]; exact List.mem_append_right _ hx)), e⟩
theorem sameAt_of {W W' : World} (h : ∀ i, i < W.heap.size → W'.heap[i]? = W.heap[i]?) {p : MemPlace} (hp : p.block < W.heap.size) : W.sameAt W' p := by
  cases p with
  | cell b o => show W'.cell? _ = W.cell? _; unfold World.cell?; rw [h b hp]
  | map b => exact h b hp
end Go.Proofs.Ythdlkpmhjbaplaa.Dx
