/- sync.Once in this seat's program. No statement of this seat is proved here. -/
import Derived.Test.YtnoekfkfinjfgaaGreatDoorYOnA
set_option autoImplicit false
noncomputable section
namespace Go.Proofs.YtnoekfkfinjfgaaGreatDoor
open Go

set_option maxRecDepth 100000 in
set_option maxHeartbeats 1600000 in
theorem slow_any (b off g : Nat) (pre cs : List Value) (w : World) (R : Ending → World → Prop)
    (h0 : w.cell? ⟨b, off, none⟩ = some (.int .u32 0)) (h1 : w.cell? ⟨b, off + 1, none⟩ = some (.int .i32 0))
    (f1 : w.frozen? ⟨b, off + 1, none⟩ = false)
    (hgc : ∀ w, (callFunc g (pre ++ cs).toArray).run Tryz.prog w = .ok (.enter g (pre ++ cs).toArray) w)
    (hg : Calls Tryz.prog g (pre ++ cs).toArray (w.setCell ⟨b, off + 1, none⟩ (.int .i32 1)) R)
    (hR : ∀ r w2, R r w2 → ∃ v, r = .returned v ∧ w2.cell? ⟨b, off, none⟩ = some (.int .u32 0) ∧ w2.frozen? ⟨b, off, none⟩ = false ∧ w2.cell? ⟨b, off + 1, none⟩ = some (.int .i32 1) ∧ w2.frozen? ⟨b, off + 1, none⟩ = false) :
    Calls Tryz.prog 71 #[.pointer (some ⟨b, off, none⟩), .func (.func g) pre.toArray cs.toArray] w fun e w' => e = .returned (.tuple #[]) ∧
      ∃ v w2, R (.returned v) w2 ∧ w' = (w2.drew.setCell ⟨b, off, none⟩ (.int .u32 1)).setCell ⟨b, off + 1, none⟩ (.int .i32 0) := by
  have hl := run_call_load (P := Tryz.prog) Tryz.func125 (by kernel_rfl) (by kernel_rfl) (by kernel_rfl) .u32 (by kernel_rfl) (w := w.setCell ⟨b, off + 1, none⟩ (.int .i32 1)) (a := ⟨b, off, none⟩) (x := 0) ((World.cell?_setCell_other _ ⟨b, off + 1, none⟩ ⟨b, off, none⟩ _ (by simp)).trans h0)
  have hnot : ∀ (x : Bool) (w : World), (Op.unary .not (.bool x)).run Tryz.prog w = .ok (.bool (!x)) w := fun _ _ => rfl
  have happ : (pre.toArray ++ (#[] : Array Value)) ++ cs.toArray = (pre ++ cs).toArray := by simp
  go_enter_defers Tryz.func71, Tryz.ntmps71
  go_wp2_with (go_at_call 126; refine (lock_free ⟨b, off + 1, none⟩ _ (by go_simp) (by go_simp)).mono ?_; rintro e w' ⟨rfl, rfl⟩)
  go_wp2
  refine hg.mono ?_
  intro r w2 hr
  obtain ⟨v, rfl, c0, z0, c1, z1⟩ := hR r w2 hr
  go_wp2
  refine leaves_cons (f := 128) (args := #[.pointer (some ⟨b, off, none⟩), .bool true]) (by simp) (by simp [go_sem]) ?_
  refine (store_deferred ⟨b, off, none⟩ (.int .u32 0) .returning _ c0 z0).mono ?_
  rintro e u' w'' ⟨rfl, rfl, rfl⟩
  refine leaves_cons (f := 127) (args := #[.pointer (some ⟨b, off + 1, none⟩)]) (by simp [settle]) (by simp [go_sem]) ?_
  refine (unlock_deferred ⟨b, off + 1, none⟩ _ _ ?_ (by simp [z1])).mono ?_
  · refine (World.cell?_setCell_other _ ⟨b, off, none⟩ ⟨b, off + 1, none⟩ _ (by simp)).trans ?_
    rw [World.cell?_drew]
    exact c1
  rintro e u' w'' ⟨rfl, rfl, rfl⟩
  refine ⟨.tuple #[], by simp [results, Tryz.results71], rfl, v, w2, hr, ?_⟩
  first | rfl | simp

set_option maxRecDepth 100000 in
set_option maxHeartbeats 1600000 in
/-- '(*sync.Once).Do', not yet done, the lock free. -/
theorem do_first (b off g : Nat) (pre cs : List Value) (w : World) (R : Ending → World → Prop)
    (h0 : w.cell? ⟨b, off, none⟩ = some (.int .u32 0)) (h1 : w.cell? ⟨b, off + 1, none⟩ = some (.int .i32 0))
    (f1 : w.frozen? ⟨b, off + 1, none⟩ = false)
    (hgc : ∀ w, (callFunc g (pre ++ cs).toArray).run Tryz.prog w = .ok (.enter g (pre ++ cs).toArray) w)
    (hg : Calls Tryz.prog g (pre ++ cs).toArray (w.setCell ⟨b, off + 1, none⟩ (.int .i32 1)) R)
    (hR : ∀ r w2, R r w2 → ∃ v, r = .returned v ∧ w2.cell? ⟨b, off, none⟩ = some (.int .u32 0) ∧ w2.frozen? ⟨b, off, none⟩ = false ∧ w2.cell? ⟨b, off + 1, none⟩ = some (.int .i32 1) ∧ w2.frozen? ⟨b, off + 1, none⟩ = false) :
    Calls Tryz.prog 43 #[.pointer (some ⟨b, off, none⟩), .func (.func g) pre.toArray cs.toArray] w fun e w' => e = .returned (.tuple #[]) ∧
      ∃ v w2, R (.returned v) w2 ∧ w' = (w2.drew.setCell ⟨b, off, none⟩ (.int .u32 1)).setCell ⟨b, off + 1, none⟩ (.int .i32 0) := by
  have hl := run_call_load (P := Tryz.prog) Tryz.func125 (by kernel_rfl) (by kernel_rfl) (by kernel_rfl) .u32 (by kernel_rfl) h0
  have hnot : ∀ (x : Bool) (w : World), (Op.unary .not (.bool x)).run Tryz.prog w = .ok (.bool (!x)) w := fun _ _ => rfl
  go_enter Tryz.func43, Tryz.ntmps43
  go_wp2_with (first | (go_at_call 71; refine (slow_any b off g pre cs _ R h0 h1 f1 hgc hg hR).mono ?_; rintro e w' ⟨rfl, v, w2, hr, rfl⟩) | (go_at_call 70; go_in))
  go_end0
  exact ⟨rfl, v, w2, hr, by first | rfl | simp⟩

set_option maxRecDepth 100000 in
set_option maxHeartbeats 1600000 in
/-- '(*sync.Once).Do', done already: the function is not called. -/
theorem do_done (a : Addr) (d : Int) (hd : ¬ d = 0) (fv : Value) (w : World) (h0 : w.cell? a = some (.int .u32 d)) :
    Calls Tryz.prog 43 #[.pointer (some a), fv] w fun e w' => e = .returned (.tuple #[]) ∧ w' = w := by
  have hl := run_call_load (P := Tryz.prog) Tryz.func125 (by kernel_rfl) (by kernel_rfl) (by kernel_rfl) .u32 (by kernel_rfl) h0
  have hnot : ∀ (x : Bool) (w : World), (Op.unary .not (.bool x)).run Tryz.prog w = .ok (.bool (!x)) w := fun _ _ => rfl
  have hd' : (d != 0) = true := by simp [hd]
  go_enter Tryz.func43, Tryz.ntmps43
  go_wp2
  go_end0
  exact ⟨rfl, rfl⟩
end Go.Proofs.YtnoekfkfinjfgaaGreatDoor
