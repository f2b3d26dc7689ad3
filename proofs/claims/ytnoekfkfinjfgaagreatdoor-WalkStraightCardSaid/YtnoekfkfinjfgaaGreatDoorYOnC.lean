/- slices.Backward's iterators in this seat's program. No statement of this seat is proved here. -/
import Derived.Test.YtnoekfkfinjfgaaGreatDoorProg
import Derived.RangeFuncBox
import Derived.RangeFuncLeaves
import Derived.Shelf.Abstract
import Derived.WalkKit
import Derived.OwnWalkIn
import Derived.TacticsInMore
import Derived.LoopNIn
import Derived.LoopIn
set_option autoImplicit false
noncomputable section
namespace Go.Proofs.YtnoekfkfinjfgaaGreatDoor
open Go Go.RowKit Go.Shelf

attribute [local go_sem] Oper.semAt_some

set_option maxRecDepth 100000 in
set_option maxHeartbeats 2000000 in
theorem back211 (F : Fence) (hF : F.fn 211) (hro : F.round = none) (hn1 : F.depth = none) (l : Nat) (box : Addr) (I : Nat → World → Prop) (n : Nat) (w : World) (hn : n ≤ 1099511627776) (hbox : ∃ s cap, w.cell? box = some (.slice s n cap)) (h0 : I n w)
    (hY : ∀ i W, I (i + 1) W → ∃ (b off m cap : Nat) (vs : List Value), W.cell? box = some (.slice (some ⟨b, off, none⟩) m cap) ∧ i < m ∧ vs.length = 1 ∧ (∀ q v, vs[q]? = some v → W.cell? ⟨b, off + i * 1 + q, none⟩ = some v) ∧
      YieldAt F 0 Tryz.prog l #[.int .i64 (i : Int), vs.headD undef] W fun e W' => e = .returned (.bool true) ∧ I i W') :
    CallsIn F 0 Tryz.prog 211 #[.func (.yield l) #[] #[], .pointer (some box)] w fun e W' => (∃ v, e = .returned v) ∧ I 0 W' := by
  obtain ⟨s0, cap0, hbox⟩ := hbox
  refine callsIn_of_wp Tryz.func211 rfl hF ?_ hro
  simp only [Tryz.ntmps211, List.size_toArray, List.length_cons, List.length_nil, Nat.reduceAdd, Nat.reduceSub, Array.replicate_succ, Array.replicate_zero, List.push_toArray, List.append_toArray, List.nil_append, List.cons_append]
  gi_wp2
  gi_loopw [3] (fun i wr => ∃ k : Nat, k ≤ n ∧ i = .int .i64 ((k : Int) - 1) ∧ I k wr)
    (fun i _ => (intOf i + 1).toNat)
  case atStart =>
    exact ⟨n, Nat.le_refl _, rfl, h0⟩
  case round =>
    obtain ⟨k, hk, rfl, hI⟩ := hrel
    cases k with
    | succ k =>
      obtain ⟨b, off, m, cap, vs, hc, hkm, hvl, hcell, fn, tmps, assign, body, hy, hR⟩ := hY k wr hI
      obtain ⟨v, rfl⟩ : ∃ v, vs = [v] := by
        match vs, hvl with
        | [v], _ => exact ⟨v, rfl⟩
      have hcx : wr.cell? ⟨b, off + k, none⟩ = some v := by simpa using hcell 0 v rfl
      dsimp only [List.headD_cons] at hy
      have e1 : ((k + 1 : Nat) : Int) - 1 = (k : Int) := by omega
      rw [e1]
      gi_wp2
      refine hR.mono ?_
      rintro e W3 ⟨rfl, hI3⟩
      gi_wp2
      go_roundw
      case rel => exact ⟨k, by omega, by simp, hI3⟩
      case measure => simp [intOf] <;> omega
    | zero =>
      gi_wp2
      go_end0
      exact ⟨⟨_, rfl⟩, hI⟩
set_option maxRecDepth 100000 in
set_option maxHeartbeats 2000000 in
theorem back212 (F : Fence) (hF : F.fn 212) (hro : F.round = none) (hn1 : F.depth = none) (l : Nat) (box : Addr) (I : Nat → World → Prop) (n : Nat) (w : World) (hn : n ≤ 1099511627776) (hbox : ∃ s cap, w.cell? box = some (.slice s n cap)) (h0 : I n w)
    (hY : ∀ i W, I (i + 1) W → ∃ (b off m cap : Nat) (vs : List Value), W.cell? box = some (.slice (some ⟨b, off, none⟩) m cap) ∧ i < m ∧ vs.length = 9 ∧ (∀ q v, vs[q]? = some v → W.cell? ⟨b, off + i * 9 + q, none⟩ = some v) ∧
      YieldAt F 0 Tryz.prog l #[.int .i64 (i : Int), Value.agg vs.toArray] W fun e W' => e = .returned (.bool true) ∧ I i W') :
    CallsIn F 0 Tryz.prog 212 #[.func (.yield l) #[] #[], .pointer (some box)] w fun e W' => (∃ v, e = .returned v) ∧ I 0 W' := by
  obtain ⟨s0, cap0, hbox⟩ := hbox
  refine callsIn_of_wp Tryz.func212 rfl hF ?_ hro
  simp only [Tryz.ntmps212, List.size_toArray, List.length_cons, List.length_nil, Nat.reduceAdd, Nat.reduceSub, Array.replicate_succ, Array.replicate_zero, List.push_toArray, List.append_toArray, List.nil_append, List.cons_append]
  gi_wp2
  gi_loopw [3] (fun i wr => ∃ k : Nat, k ≤ n ∧ i = .int .i64 ((k : Int) - 1) ∧ I k wr)
    (fun i _ => (intOf i + 1).toNat)
  case atStart =>
    exact ⟨n, Nat.le_refl _, rfl, h0⟩
  case round =>
    obtain ⟨k, hk, rfl, hI⟩ := hrel
    cases k with
    | succ k =>
      obtain ⟨b, off, m, cap, vs, hc, hkm, hvl, hcell, fn, tmps, assign, body, hy, hR⟩ := hY k wr hI
      obtain ⟨v0, v1, v2, v3, v4, v5, v6, v7, v8, rfl⟩ : ∃ v0 v1 v2 v3 v4 v5 v6 v7 v8, vs = [v0, v1, v2, v3, v4, v5, v6, v7, v8] := by
        match vs, hvl with
        | [v0, v1, v2, v3, v4, v5, v6, v7, v8], _ => exact ⟨v0, v1, v2, v3, v4, v5, v6, v7, v8, rfl⟩
      have c0 : wr.cell? ⟨b, off + k * 9, none⟩ = some v0 := hcell 0 v0 rfl
      have c1 : wr.cell? ⟨b, off + k * 9 + 1, none⟩ = some v1 := hcell 1 v1 rfl
      have c2 : wr.cell? ⟨b, off + k * 9 + 2, none⟩ = some v2 := hcell 2 v2 rfl
      have c3 : wr.cell? ⟨b, off + k * 9 + 3, none⟩ = some v3 := hcell 3 v3 rfl
      have c4 : wr.cell? ⟨b, off + k * 9 + 4, none⟩ = some v4 := hcell 4 v4 rfl
      have c5 : wr.cell? ⟨b, off + k * 9 + 5, none⟩ = some v5 := hcell 5 v5 rfl
      have c6 : wr.cell? ⟨b, off + k * 9 + 6, none⟩ = some v6 := hcell 6 v6 rfl
      have c7 : wr.cell? ⟨b, off + k * 9 + 7, none⟩ = some v7 := hcell 7 v7 rfl
      have c8 : wr.cell? ⟨b, off + k * 9 + 8, none⟩ = some v8 := hcell 8 v8 rfl
      clear hcell
      have e1 : ((k + 1 : Nat) : Int) - 1 = (k : Int) := by omega
      rw [e1]
      gi_wp2
      refine hR.mono ?_
      rintro e W3 ⟨rfl, hI3⟩
      gi_wp2
      go_roundw
      case rel => exact ⟨k, by omega, by simp, hI3⟩
      case measure => simp [intOf] <;> omega
    | zero =>
      gi_wp2
      go_end0
      exact ⟨⟨_, rfl⟩, hI⟩
end Go.Proofs.YtnoekfkfinjfgaaGreatDoor
