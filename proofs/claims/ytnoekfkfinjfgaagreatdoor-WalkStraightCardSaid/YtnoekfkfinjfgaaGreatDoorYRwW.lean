/- WalkStraight: a program without an argument has one way at each place, and comes to what it comes to: the law is true of any numbers. No condition. -/
import Derived.Test.YtnoekfkfinjfgaaGreatDoorRows
import Derived.Test.YtnoekfkfinjfgaaGreatDoorCards
import Derived.Test.YtnoekfkfinjfgaaGreatDoorTie
import Derived.Test.YtnoekfkfinjfgaaGreatDoorYLzS
import Derived.Test.YtnoekfkfinjfgaaGreatDoorYRwA
import Derived.Test.YtnoekfkfinjfgaaGreatDoorYRwF
import Derived.Test.YtnoekfkfinjfgaaGreatDoorYRwG
import Derived.WalkKit
import Derived.ProofKit
import Derived.OpenShut
import Derived.LaidMore
import Derived.LaidSub
import Derived.Lib.LaidTab
import Derived.Lay
import Derived.SevenTiedAt
import Derived.Stop.Joined
namespace Go.Proofs.YtnoekfkfinjfgaaGreatDoor.walkStraight
open Go.ChangeShapes Go.WideShapes Go.ChangeAt Go.RowKit
set_option linter.unusedVariables false
set_option linter.unnecessarySimpa false

theorem own : ownKnob Tryz.prog.godebug = none := by kernel_rfl
theorem gT : Tryz.prog.globalNamed "strings.asciiSpace" = some 0 := by kernel_rfl
theorem gTType : (Tryz.prog.globals[0]?).map (·.type) = some 397 := by kernel_rfl
theorem cells5 : Tryz.prog.cellsOf 5 = 1 := by kernel_rfl
theorem cells397 : Tryz.prog.cellsOf 397 = 256 := by kernel_rfl
theorem cells3 : Tryz.prog.cellsOf 3 = 1 := by kernel_rfl
/-- The table. -/
def tab : List Int := [0, 0, 0, 0, 0, 0, 0, 0, 0, 1, 1, 1, 1, 1] ++ List.replicate 18 0 ++ [1] ++ List.replicate 223 0
theorem laid_is : (Rows.walkStraightRow.laid.filter fun x => x.1 == "strings.asciiSpace") = [("strings.asciiSpace", Lib.tabData .u8 tab)] := by kernel_rfl
theorem tab_is {W : World} (h : laidMetH Tryz.prog Rows.walkStraightRow.laid W) : Lib.TabIs Tryz.prog W "strings.asciiSpace" .u8 tab := by
  rw [MakeChecks.laidMetH_plain _ _ _ (by kernel_rfl)] at h
  have h2 := laidMet.filter (fun x => x.1 == "strings.asciiSpace") h
  rw [laid_is] at h2
  exact Lib.tabIs_of_head gT gTType Tryz.underlying397 Tryz.underlying5 cells5 cells397 h2
theorem gl_is : Dx.gl = [tab.map fun z => Dx.DV.int .u8 z, [], []] := by kernel_rfl
theorem size3 : decide (Tryz.prog.globals.size = 3) = true := by kernel_rfl
theorem begin3 : decide (3 < (begin Tryz.prog (fun _ _ => 0) default).world.heap.size) = true := by kernel_rfl
theorem heap3 {w : World} (h : w.ShapedOpen Tryz.prog) : 3 < w.heap.size := by
  have e := of_decide_eq_true size3
  have h2 := h.2 3 (by rw [e]; exact Nat.le_refl _) (of_decide_eq_true begin3)
  obtain ⟨o, _, h3, _⟩ := h2
  exact (Array.getElem?_eq_some_iff.1 h3).1
theorem started_at [Dx.Rho] {W : World} (h : laidMetH Tryz.prog Rows.walkStraightRow.laid W) (hs : 3 < W.heap.size) :
    Dx.Start (Dx.glH Dx.gl .z .nl).1 (Dx.glH Dx.gl .z .nl).2 (fun k => if k.n < Dx.GN then some (.ro k.n 0) else none) W := by
  have ht := tab_is h
  have hn : (Dx.glH Dx.gl .z .nl).1.n = 3 := by kernel_rfl
  have hlen : Dx.gl.length = 3 := by kernel_rfl
  refine ⟨?_, ?_, fun k hk => if_pos hk, ?_⟩
  · intro k i hk
    by_cases h1 : k.n < Dx.GN
    · rw [if_pos h1] at hk; cases hk; exact ⟨by rw [hn]; exact h1, _, _, rfl⟩
    · rw [if_neg h1] at hk; cases hk
  · intro k b s hk
    by_cases h1 : k.n < Dx.GN
    · rw [if_pos h1] at hk
      simp only [Option.some.injEq, Dx.Img.ro.injEq] at hk
      obtain ⟨rfl, rfl⟩ := hk
      have h1 : k.n < 3 := h1
      have hi : k.n < Dx.gl.length := by rw [hlen]; exact h1
      refine ⟨Dx.gl[k.n], (Dx.glH_get Dx.gl .z .nl k).1 k.n _ (List.getElem?_eq_getElem hi) (by rw [Dx.P.n_z]; omega), by omega, fun i d hd => ?_⟩
      have hg : Dx.gl[k.n]? = some Dx.gl[k.n] := List.getElem?_eq_getElem hi
      generalize Dx.gl[k.n] = g at hd hg
      rw [gl_is] at hg
      have hk3 : k.n = 0 ∨ k.n = 1 ∨ k.n = 2 := by omega
      rcases hk3 with e | e | e
      · rw [e] at hg ⊢
        cases hg
        rw [List.getElem?_map] at hd
        cases hz : tab[i]? with
        | none => rw [hz] at hd; cases hd
        | some z =>
          rw [hz] at hd; cases hd
          refine ⟨.int .u8 z, ?_, .int _ _, rfl⟩
          rw [World.var?_cell gT ht (0 + i)]
          simp [hz]
      · rw [e] at hg; cases hg; simp at hd
      · rw [e] at hg; cases hg; simp at hd
    · rw [if_neg h1] at hk; cases hk
  · intro k hk
    rw [hn] at hk
    rw [(Dx.glH_get Dx.gl .z .nl k).2 (.inr (by rw [Dx.P.n_z, hlen]; omega)), Dx.Tr.get_e]

theorem block_lt {W : World} {b off i : Nat} {v : Value} (h : W.cell? ((⟨b, off, none⟩ : Addr).add i) = some v) : b < W.heap.size := by
  rcases Nat.lt_or_ge b W.heap.size with h1 | h1
  · exact h1
  · rw [add_plain] at h
    unfold World.cell? at h
    rw [show W.heap[b]? = none from Array.getElem?_eq_none h1] at h
    simp at h
/-- A row of numbers that came in. -/
theorem picks_of {H : Type} {enc : TypeId × Value → H} {W : World} {a0 : Option Addr} {len0 cap0 : Nat} {d : DataW H} {ps : List MemPlace} (h : DataW.Trod enc Tryz.prog W 0 (fun _ => true) true 22 (.slice a0 len0 cap0) d ps) : ∃ xs, Dx.SliceIs W (.slice a0 len0 cap0) xs := by
  obtain ⟨fuel, hf⟩ := h
  rcases open_ints Tryz.underlying22 Tryz.underlying3 cells3 hf with ⟨hcs, hx⟩ | ⟨a, len, cap, zs, hcs, _, hl, _, hz, hx, hcell, _⟩
  · have hcs : [Value.slice a0 len0 cap0] = [.slice none 0 0] := hcs
    simp only [List.cons.injEq, Value.slice.injEq, and_true] at hcs
    obtain ⟨rfl, rfl, rfl⟩ := hcs
    exact ⟨[], .inl ⟨rfl, rfl⟩⟩
  · have hcs : [Value.slice a0 len0 cap0] = [.slice (some a) len cap] := hcs
    simp only [List.cons.injEq, Value.slice.injEq, and_true] at hcs
    obtain ⟨rfl, rfl, rfl⟩ := hcs
    simp only [if_true] at hz
    rcases Nat.eq_zero_or_pos len0 with h0 | h0
    · subst h0; exact ⟨[], .inr (.inl ⟨a, cap0, rfl, rfl⟩)⟩
    · obtain ⟨b, off, spot⟩ := a
      have hspot : spot = none := by simpa [Addr.add] using World.cell?_spot (hcell 0 (by omega))
      subst hspot
      have hlen : (zs.take len0).length = len0 := by simp; omega
      refine ⟨zs.take len0, .inr (.inr ⟨b, off, cap0, by rw [hlen], by rw [hlen]; exact hl, block_lt (hcell 0 (by omega)), fun i x hi => ?_⟩)⟩
      have hi' : i < len0 := by have := (List.getElem?_eq_some_iff.1 hi).1; rw [hlen] at this; exact this
      rw [List.getElem?_take_of_lt hi'] at hi
      have := hcell i (by omega)
      rw [List.getD, hi] at this
      rw [add_plain] at this
      simpa using this

theorem kids : Kids Tryz.prog (· < Tryz.prog.types.size) := kids_rows (by kernel_rfl) (by kernel_rfl)
theorem slices_full : ∀ t e, t < Tryz.prog.types.size → Tryz.prog.underlying t = some (.slice e) → 0 < Tryz.prog.cellsOf e := slices_full_of Tryz.prog (by kernel_rfl)
set_option maxRecDepth 100000 in
theorem lifted (os : Os) (started : os.Started) (H : Type) (enc : TypeId × Value → H) :
    ReturnsInHanded {} Tryz.checked os 3 .any (fun w args => (Rows.walkStraightSpec.pre enc Tryz.prog Tryz.f3 Rows.walkStraightRow.domain false w args ∧ laidMetH Tryz.prog Rows.walkStraightRow.laid w) ∧ sizedMet enc Tryz.prog Tryz.f3 (OpenSpec.ofChange Rows.walkStraightSpec) false w args)
      (Rows.walkStraightSpec.post enc Tryz.prog Tryz.f3 false true false false) := by
  refine returnsInHanded_of_calls (C := Tryz.checked) own started (by kernel_rfl)
    (ChangeSpec.witness_shaped (enc := enc) (C := Tryz.checked) (os := os) (X := fun w _ => laidMetH Tryz.prog Rows.walkStraightRow.laid w) false (World.laidAll Tryz.prog os Rows.walkStraightRow.laid) #[.slice none 0 0] 8 (World.laidAll_os _ _ _)
      (World.shaped_of_ZipB (by kernel_rfl) (by kernel_rfl)) (by kernel_rfl) (by kernel_rfl) (by kernel_rfl)
      (by rw [MakeChecks.laidMetH_plain _ _ _ (by kernel_rfl)]; exact laidMet_laidAll _ (by kernel_rfl) (by kernel_rfl))) ?_
  intro w tape i _ hsh _ hok hpre hholds
  obtain ⟨_, _, _, fn', hfn', _, _, _, _, hval0⟩ := hok
  have e : fn' = Tryz.f3 := Option.some.inj (hfn'.symm.trans Tryz.func3)
  subst e
  obtain ⟨⟨⟨ds, gs, before, hw, hc⟩, hL0⟩, hz⟩ := hpre
  have hL : laidMetH Tryz.prog Rows.walkStraightRow.laid (w.forCall tape i) := hL0.of_heap (by rfl)
  have hW := DataW.Whole.of_heap (w' := w.forCall tape i) (by rfl) hw
  have hs := heap3 hsh
  refine Calls.mono (R := fun e W' => ∃ v, e = .returned v ∧ Rows.walkStraightSpec.post enc Tryz.prog Tryz.f3 false true false false (w.forCall tape i) i.args v W') ?_ (fun e W' ⟨v, he, hp⟩ => by subst he; exact ChangeSpec.post_blind hp)
  generalize w.forCall tape i = W at hval0 hW hs hL
  generalize i.args = args at hval0 hW
  have hval : ∀ (j : Nat) t v, Tryz.f3.params[j]? = some t → args[j]? = some v → Value.okWide Tryz.prog W .any _ t v := hval0
  have hW' := hW
  have hlt := hW.lt
  obtain ⟨p, q, hA0, hV, rfl, hfz, hnd⟩ := hW
  have hA : DataW.TrodAll enc Tryz.prog W 0 (fun _ => true) true Tryz.f3.params.toList args.toList ds p := hA0
  have hAk := hA
  rw [Tryz.params3] at hA hval
  obtain ⟨v0, vs0, d0, ds0, p0, q0, hargs, rfl, rfl, h0, r0⟩ := trodAll_cons hA
  obtain ⟨rfl, rfl, rfl⟩ := trodAll_nil r0
  obtain rfl : args = #[v0] := by cases args; simp_all
  obtain ⟨rfl, rfl⟩ := trodVars_none hV
  obtain ⟨a0, len0, cap0, rfl⟩ := okWide_slice Tryz.underlying22 (hval 0 22 v0 rfl rfl)
  obtain ⟨xs, hxs⟩ := picks_of h0
  letI : Dx.Rho := Dx.rhoOf xs
  refine (Dx.good_all xs W _ _ (started_at hL hs) hxs).mono fun e W' ⟨he, hg, hsame⟩ => ?_
  subst he
  exact ⟨_, rfl, Dx.post_of_old (pv := []) hW' (fun _ _ _ => (trodAll_cons_mk (shut_bool Tryz.underlying4 _) trodAll_mk0))
    (fun sp hsp => Dx.stays kids slices_full (by rw [Tryz.params3]; decide) hAk (fun x hx => Dx.sameAt_of hsame (hlt x (by simpa using hx))) (fun x hx => hsp x (by simpa using hx))) (fun _ _ => rfl) rfl
    hg (ok_one (by kernel_rfl) rfl (okWide_bool_mk Tryz.underlying4 _))⟩

theorem over : Rows.walkStraightRow.holds Tryz.pinned (OpenSpec.ofChange Rows.walkStraightSpec) :=
  OpenClaim.holds_of_wide 3 Tryz.f3 rfl rfl rfl rfl rfl rfl rfl ⟨rfl, rfl, rfl, rfl, rfl⟩ rfl rfl rfl rfl rfl (by kernel_rfl) Tryz.func3 closed
    (of_decide_eq_true (by kernel_rfl)) (by unfold Func.isWrapper; first | (rw [if_pos (by decide +kernel)]; kernel_rfl) | (rw [if_neg (by decide +kernel)]; exact ⟨rfl, rfl⟩))
    (fun os started H enc _ => lifted os started H enc)

/-- The tied card. -/
theorem proved : Rows.WalkStraightCardSaid :=
  Claim7.holds_tied_plain_at .later [] [.listed, .data] true (true, "401bf9945189b759e8e644dfb0fdde3be11156d7bc7541844098f0db64c247c9") false over (fun _ h => by cases h) (by kernel_rfl) (fun _ h => by cases h) walkStraight_row_tie rfl ⟨rfl, rfl⟩ (by kernel_rfl) rfl
    (fun f fn hf hfn => by
      obtain rfl : f = 3 := Option.some.inj ((show Tryz.prog.funcNamed "delver/delverlaw21.WalkStraight" = some 3 by kernel_rfl).symm.trans hf) |>.symm
      obtain rfl : fn = Tryz.f3 := (Option.some.inj (Tryz.func3.symm.trans hfn)).symm
      exact ⟨by kernel_rfl, fun j t ht => by
        rw [Tryz.params3] at ht
        have hm : t ∈ [22] := by simpa using Array.mem_of_getElem? ht
        have hall : ([22].all fun u => !Tryz.prog.wantsStandIn u) = true := by kernel_rfl
        exact (show Tryz.prog.wantsStandIn t = false by simpa using List.all_eq_true.1 hall t hm)⟩)
    goes
#print axioms proved
end Go.Proofs.YtnoekfkfinjfgaaGreatDoor.walkStraight
