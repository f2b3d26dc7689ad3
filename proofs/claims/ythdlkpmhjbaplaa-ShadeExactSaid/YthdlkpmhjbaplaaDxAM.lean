/- The small machine's code, beside Go's: all of it. No statement of this seat is proved here. -/
import Derived.Test.YthdlkpmhjbaplaaDxAL
set_option autoImplicit false
noncomputable section
namespace Go.Proofs.Ythdlkpmhjbaplaa.Dx
open Go

/-! ### A region whose order is left open -/

theorem cnt_set : ∀ (l : List Bool) (i : Nat), l[i]? = some false → (l.set i true).countP (! ·) + 1 = l.countP (! ·)
  | [], i, h => by simp at h
  | b :: l, 0, h => by simp at h; subst h; simp
  | b :: l, i + 1, h => by
    have := cnt_set l i (by simpa using h)
    simp only [List.set_cons_succ, List.countP_cons]
    omega

section
variable {Pr : Program} {wm : Option P} {ds : List Dop} {ops : Array Oper} {e : Env} {nx : P} {h : Hp} {E : Nat → Env} {X : Nat → P} {H : Nat → Hp} {Ls : List Nat} {N hi : Nat} {j0 : J} {pv0 : P → Option Nat} {a0 : Act} {w0 : World}

theorem ready_iff {listed : Array Bool} {i : Nat} : i ∈ Region.ready .any ops listed ↔ ∃ o, ops[i]? = some o ∧ listed.getD i true = false ∧ ∀ m ∈ edges o, listed.getD m false = true := by
  unfold Region.ready
  rw [List.mem_filter, List.mem_range]
  constructor
  · rintro ⟨h1, h2⟩
    rw [Array.getElem?_eq_getElem h1] at h2
    simp only [Option.map_some, Option.getD_some, Bool.and_eq_true, Bool.not_eq_true', Array.all_eq_true_iff_forall_mem, Bool.or_eq_true] at h2
    refine ⟨ops[i], Array.getElem?_eq_getElem h1, h2.1, ?_⟩
    intro m hm
    simp only [edges, List.mem_map, List.mem_filter, Array.mem_toList_iff] at hm
    obtain ⟨ed, ⟨h3, h4⟩, rfl⟩ := hm
    rcases h2.2 ed h3 with h5 | h5
    · rw [h4] at h5; cases h5
    · exact h5
  · rintro ⟨o, h1, h2, h3⟩
    have hlt : i < ops.size := (Array.getElem?_eq_some_iff.1 h1).1
    refine ⟨hlt, ?_⟩
    rw [h1]
    simp only [Option.map_some, Option.getD_some, Bool.and_eq_true, Bool.not_eq_true', Array.all_eq_true_iff_forall_mem, Bool.or_eq_true]
    refine ⟨h2, fun ed hed => ?_⟩
    cases hb : Region.binds .any ed with
    | false => exact .inl rfl
    | true => exact .inr (h3 _ (by simp only [edges, List.mem_map, List.mem_filter, Array.mem_toList_iff]; exact ⟨ed, ⟨hed, hb⟩, rfl⟩))

theorem any_sim (D : DrwOk Pr Ls N ds ops.toList) (st : Sts Pr wm ds ops.toList e nx h E X H) (top : ∀ k : P, nx.n ≤ k.n → Tr.get? k h = none) (hnh : (X ds.length).n ≤ hi) {Q : Exit → Act → World → Prop}
    (hQ : ∀ j' pv' a' w', Rel (vars Ls) N hi j' pv' (E ds.length) (X ds.length) (H ds.length) a' w' → Fr hi nx.n j0 pv0 w0 j' pv' w' → a'.defers = a0.defers → Q .normal a' w') :
    ∀ (fuel : Nat) (listed : Array Bool) (j : J) (pv : P → Option Nat) (a : Act) (w : World), listed.size = ops.size → listed.toList.countP (! ·) ≤ fuel → Down ops.toList (fun q => listed.getD q false = true) →
      Inv ds E X H Ls N hi j0 pv0 a0 w0 (fun q => listed.getD q false = true) j pv a w → wpAny Pr .any ops Q fuel listed a w := by
  have hl : ds.length = ops.toList.length := D.len
  -- if none is ready, all are done
  have fin : ∀ (listed : Array Bool) (j : J) (pv : P → Option Nat) (a : Act) (w : World), listed.size = ops.size → Inv ds E X H Ls N hi j0 pv0 a0 w0 (fun q => listed.getD q false = true) j pv a w → Region.ready .any ops listed = [] → Q .normal a w := by
    intro listed j pv a w hsz I hr
    have hall : ∀ q, q < ops.size → listed.getD q false = true := by
      intro q
      induction q using Nat.strongRecOn with
      | _ q ih =>
        intro hq
        cases hb : listed.getD q false with
        | true => rfl
        | false =>
          exfalso
          have hmem : q ∈ Region.ready .any ops listed := by
            refine ready_iff.2 ⟨ops[q], Array.getElem?_eq_getElem hq, ?_, ?_⟩
            · rw [Array.getD_eq_getD_getElem?, Array.getElem?_eq_getElem (by omega)] at hb ⊢
              exact hb
            · intro m hm
              have hmq := D.edge q ops[q] (by rw [Array.getElem?_toList, Array.getElem?_eq_getElem hq]) m hm
              exact ih m hmq (by omega)
          rw [hr] at hmem; cases hmem
    obtain ⟨h1, h2, h3⟩ := I.finish st hl top (fun q hq => hall q (by rw [hl] at hq; simpa using hq))
    exact hQ j pv a w h1 h2 h3
  intro fuel
  induction fuel with
  | zero =>
    intro listed j pv a w hsz hcnt hdown I
    have hr : Region.ready .any ops listed = [] := by
      rw [List.eq_nil_iff_forall_not_mem]
      intro i hi
      obtain ⟨o, h1, h2, _⟩ := ready_iff.1 hi
      have hlt : i < ops.size := (Array.getElem?_eq_some_iff.1 h1).1
      rw [Array.getD_eq_getD_getElem?, Array.getElem?_eq_getElem (by omega)] at h2
      simp only [Option.getD_some] at h2
      have hpos : 0 < listed.toList.countP (! ·) := List.countP_pos_iff.2 ⟨listed[i], Array.getElem_mem_toList _, by simp [h2]⟩
      omega
    exact ⟨hr, fin listed j pv a w hsz I hr⟩
  | succ fuel ih =>
    intro listed j pv a w hsz hcnt hdown I
    refine ⟨fin listed j pv a w hsz I, ?_⟩
    intro i hir
    obtain ⟨o, h1, h2, h3⟩ := ready_iff.1 hir
    have hlt : i < ops.size := (Array.getElem?_eq_some_iff.1 h1).1
    have h2' : listed[i]? = some false := by
      rw [Array.getD_eq_getD_getElem?, Array.getElem?_eq_getElem (by omega)] at h2
      rw [Array.getElem?_eq_getElem (by omega)]; simpa using h2
    have hnS : ¬ listed.getD i false = true := by rw [Array.getD_eq_getD_getElem?, h2']; simp
    have ho : ops.toList[i]? = some o := by rw [Array.getElem?_toList]; exact h1
    have hil : i < ds.length := by rw [hl]; simpa using hlt
    have hd : ds[i]? = some ds[i] := List.getElem?_eq_getElem hil
    have hdop := D.dop i _ hd
    have hc := D.ops i _ o hd ho
    have side := fun (q : Nat) (x : Dop) (hx : ds[q]? = some x) (hcl : clash x ds[i] = true) => D.side hdown ho h3 hnS hx hd hcl
    cases hdi : ds[i] with
    | mk c u b r op =>
      rw [hdi] at hd hdop hc side
      simp only [okDop, Bool.and_eq_true] at hdop
      obtain ⟨⟨⟨⟨k1, k2⟩, k3⟩, k4⟩, k5⟩ := hdop
      subst k1
      have A : Now Pr wm ds ops.toList e nx h E X H Ls N hi (fun q => listed.getD q false = true) i u b r op o := {
        st := st, hl := hl, top := top, hnh := hnh, hd := hd, ho := ho, hn := hnS, side := side
        hdb := fun p hp => (memP_iff p b).1 (allIn_spec k3 p hp)
        hbu := fun p hp => by
          have := allIn_spec k4 p hp
          rw [Bool.or_eq_true, memP_iff, memP_iff] at this; exact this
        hvu := fun hv p hp => by
          rw [hv] at k2
          simp only [Bool.not_true, Bool.false_or] at k2
          exact (memP_iff p u).1 (allIn_spec k2 p hp)
        hlv := fun h1 h2 p hp hL => by
          rw [h1, h2] at k5
          simp only [Bool.false_or] at k5
          have := allIn_spec k5 p hp
          unfold vars at hL
          rw [hL] at this
          simp only [Bool.not_true, Bool.false_or] at this
          exact (memP_iff p b).1 this
        hc := hc }
      have hset : (fun q => (listed.setIfInBounds i true).getD q false = true) = addS (fun q => listed.getD q false = true) i := by
        funext q
        simp only [addS, eq_iff_iff, Array.getD_eq_getD_getElem?, Array.getElem?_setIfInBounds]
        by_cases hq : i = q
        · subst hq; simp [show i < listed.size by omega]
        · rw [if_neg hq]; exact ⟨.inl, fun h => h.elim id (fun h => absurd h.symm hq)⟩
      have W := A.wp rfl I (K := wpAny Pr .any ops Q fuel (listed.setIfInBounds i true)) (Q := Q) (by
        intro j' pv' a' w' I'
        refine ih _ j' pv' a' w' (by simpa using hsz) ?_ ?_ (by rw [hset]; exact I')
        · have := cnt_set listed.toList i (by rw [Array.getElem?_toList]; exact h2')
          rw [Array.toList_setIfInBounds]; omega
        · rw [hset]
          intro q oq hq hoq m hm
          rcases hq with hq | rfl
          · exact .inl (hdown q oq hq hoq m hm)
          · rw [ho] at hoq; cases hoq; exact .inl (h3 m hm))
      unfold OperWp at W
      unfold wpOp
      rw [h1]
      simp only []
      by_cases hw : Region.wanted o (yielded ops a.tmps) = true
      · rw [if_pos hw] at W ⊢; exact .inl W
      · rw [if_neg hw] at W ⊢; exact W
end

/-! ### All code -/

section
variable {Pr : Program} {F : Tr Fd}

theorem cwp_code {c : Code} {Q : Exit → Act → World → Prop} {a : Act} {w : World} (hc : ∀ b, c ≠ .loop b) (h : c.wp Pr Q a w) : cwp Pr c Q a w := by
  cases c <;> first | exact h | exact absurd rfl (hc _)

theorem exec_sound (hF : FOk Pr F) (hm : Pr.follows .mixedOrders = true) : ∀ fuel, IhOk Pr (exec F fuel) := by
  intro fuel
  induction fuel with
  | zero => intro c wm e nx h out e' nx' h' H; cases H
  | succ fuel ihf =>
    have key : ∀ (c : C) (wm : Option P) (e : Env) (nx : P) (h : Hp) (out : Out) (e' : Env) (nx' : P) (h' : Hp), step c F (exec F fuel) wm e nx h = .ok out e' nx' h' →
        ∀ (Ls : List Nat) (N : Nat) (c' : Code), chkC Pr Ls N c c' = true → MovesC wm nx h nx' h' ∧ CodeOk Pr Ls N c' e nx h out e' nx' h' := by
      intro c
      induction c with
      | skip =>
        intro wm e nx h out e' nx' h' H Ls N c' hc
        change Res.ok .norm e nx h = _ at H
        cases H
        refine ⟨MovesC.refl _ _ _, ?_⟩
        intro hi j pv a w R _ Q hQ
        have hq := hQ j pv a w R (Fr.refl _ _ _ _ _) rfl
        cases c' <;> simp only [chkC, Bool.false_eq_true] at hc
        · exact wp_skip hq
        · exact wp_label hq
      | exit id =>
        intro wm e nx h out e' nx' h' H Ls N c' hc
        change Res.ok (.exit id) e nx h = _ at H
        cases H
        refine ⟨MovesC.refl _ _ _, ?_⟩
        intro hi j pv a w R _ Q hQ
        have hq := hQ j pv a w R (Fr.refl _ _ _ _ _) rfl
        cases c' <;> simp only [chkC, Bool.false_eq_true] at hc
        have := beqT hc
        subst this
        exact wp_exit hq
      | ret =>
        intro wm e nx h out e' nx' h' H Ls N c' hc
        change Res.ok .ret e nx h = _ at H
        cases H
        refine ⟨MovesC.refl _ _ _, ?_⟩
        intro hi j pv a w R _ Q hQ
        have hq := hQ j pv a w R (Fr.refl _ _ _ _ _) rfl
        cases c' <;> simp only [chkC, Bool.false_eq_true] at hc
        exact wp_ret hq
      | reg l =>
        intro wm e nx h out e' nx' h' H Ls N c' hc
        change opsK l F (exec F fuel) wm e nx h okN = _ at H
        obtain ⟨id, ops, draw, rfl⟩ : ∃ id ops draw, c' = .region id ops draw := by
          cases c' <;> first | exact ⟨_, _, _, rfl⟩ | (simp [chkC] at hc)
        obtain rfl : draw = false := by cases draw with
          | false => rfl
          | true => first | exact absurd hc (by simp [chkC]) | cases hc
        change chkOps Pr Ls N ops.toList l ops.toList = true at hc
        obtain ⟨e1, nx1, h1, H1, M, W⟩ := ops_sim (ops := ops) (Ls := Ls) (N := N) hF ihf l 0 e nx h okN H (by simpa using hc)
        change Res.ok .norm e1 nx1 h1 = _ at H1
        cases H1
        refine ⟨M, ?_⟩
        intro hi j pv a w R hnh Q hQ
        refine wp_region ?_
        have := W hi j pv a w R hnh Q hQ
        rw [List.range_eq_range']
        exact this
      | drw l =>
        intro wm e nx h out e' nx' h' H Ls N c' hc
        change dopsK l F (exec F fuel) wm e nx h okN = _ at H
        obtain ⟨id, ops, draw, rfl⟩ : ∃ id ops draw, c' = .region id ops draw := by
          cases c' <;> first | exact ⟨_, _, _, rfl⟩ | (simp [chkC] at hc)
        obtain rfl : draw = true := by cases draw with
          | true => rfl
          | false => first | exact absurd hc (by simp [chkC]) | cases hc
        change chkDrw Pr Ls N l ops.toList = true at hc
        have D := chkDrw_spec hc
        have hch : chkOps Pr Ls N ops.toList (l.map opD) ops.toList = true := by
          simp only [chkDrw, Bool.and_eq_true] at hc; exact hc.1.1.1
        obtain ⟨E, X, Hh, st, H1⟩ := dops_sim hF ihf l ops.toList e nx h okN H hch
        change Res.ok .norm (E l.length) (X l.length) (Hh l.length) = _ at H1
        have hl : l.length = ops.toList.length := D.len
        cases H1
        refine ⟨⟨?_, ?_, ?_⟩, ?_⟩
        · have := st.le hl (Nat.zero_le _) (Nat.le_refl _); rw [st.x0] at this; exact this
        · intro m hmw hmn
          exact (st.mono hl (fun m' hm' => by rw [hmw] at hm'; cases hm'; exact hmn) l.length (Nat.le_refl _)).old m hmw hmn
        · intro ht; exact st.top hl ht l.length (Nat.le_refl _)
        · intro hi j pv a w R hnh Q hQ
          refine wp_region_any hm ?_
          have R' := R.drew (w.drawn + 1)
          refine any_sim D st R.top hnh (j0 := j) (pv0 := pv) (a0 := a) (w0 := { w with drawn := w.drawn + 1 }) ?_ ops.size _ j pv a _ (by simp) ?_ ?_ ?_
          · intro j' pv' a' w' R2 F2 hd
            exact hQ j' pv' a' w' R2 ((Fr.drew hi nx.n j pv w (w.drawn + 1)).trans F2 (Nat.le_refl _)) hd
          · refine Nat.le_trans List.countP_le_length ?_
            simp
          · intro i o hi' _ _ _
            rw [Array.getD_eq_getD_getElem?, Array.getElem?_replicate] at hi'
            split at hi' <;> simp at hi'
          · have hS : (fun q => (Array.replicate ops.size false).getD q false = true) = (fun _ => False) := by
              funext q
              rw [Array.getD_eq_getD_getElem?, Array.getElem?_replicate]
              split <;> simp
            rw [hS]
            exact Inv.start st hl R' hnh
      | seq a b iha ihb =>
        intro wm e nx h out e' nx' h' H Ls N c' hc
        change Res.rec (motive := fun _ => Res) .fail (sqO (step b) F (exec F fuel) wm) (step a F (exec F fuel) wm e nx h) = _ at H
        cases c' <;> simp only [chkC, Bool.false_eq_true] at hc
        rename_i a' b'
        rw [Bool.and_eq_true] at hc
        cases hr : step a F (exec F fuel) wm e nx h with
        | fail => rw [hr] at H; cases H
        | ok o1 e1 nx1 h1 =>
          rw [hr] at H
          obtain ⟨M1, C1⟩ := iha wm e nx h o1 e1 nx1 h1 hr Ls N a' hc.1
          cases o1 with
          | norm =>
            change step b F (exec F fuel) wm e1 nx1 h1 = _ at H
            obtain ⟨M2, C2⟩ := ihb wm e1 nx1 h1 out e' nx' h' H Ls N b' hc.2
            refine ⟨M1.trans M2, ?_⟩
            intro hi j pv ac w R hnh Q hQ
            refine wp_seq (cwp_wp (C1 hi j pv ac w R (Nat.le_trans M2.le hnh) _ ?_))
            intro j1 pv1 a1 w1 R1 F1 hd1
            refine cwp_wp (C2 hi j1 pv1 a1 w1 R1 hnh Q ?_)
            intro j2 pv2 a2 w2 R2 F2 hd2
            exact hQ j2 pv2 a2 w2 R2 (F1.trans F2 M1.le) (hd2.trans hd1)
          | exit id =>
            change Res.ok (.exit id) e1 nx1 h1 = _ at H
            cases H
            refine ⟨M1, ?_⟩
            intro hi j pv ac w R hnh Q hQ
            exact wp_seq (cwp_wp (C1 hi j pv ac w R hnh _ hQ))
          | ret =>
            change Res.ok .ret e1 nx1 h1 = _ at H
            cases H
            refine ⟨M1, ?_⟩
            intro hi j pv ac w R hnh Q hQ
            exact wp_seq (cwp_wp (C1 hi j pv ac w R hnh _ hQ))
      | cond cd a b iha ihb =>
        intro wm e nx h out e' nx' h' H Ls N c' hc
        change asB (ev cd e) .fail (cdB (step a) (step b) F (exec F fuel) wm e nx h) = _ at H
        rw [asB_eq] at H
        cases c' <;> simp only [chkC, Bool.false_eq_true] at hc
        rename_i cd' a' b'
        simp only [Bool.and_eq_true] at hc
        cases hv : ev cd e <;> simp only [hv, reduceCtorEq] at H
        rename_i t
        have hval : ∀ (hi : Nat) (j : J) (pv : P → Option Nat) (ac : Act) (w : World), Rel (vars Ls) N hi j pv e nx h ac w → ac.eval cd' = .bool t := by
          intro hi j pv ac w R
          have := R.reads cd cd' hc.1.1
          rw [hv] at this; exact this.bool
        cases t with
        | true =>
          change step a F (exec F fuel) wm e nx h = _ at H
          obtain ⟨M, Cc⟩ := iha wm e nx h out e' nx' h' H Ls N a' hc.1.2
          exact ⟨M, fun hi j pv ac w R hnh Q hQ => wp_cond_true (hval hi j pv ac w R) (cwp_wp (Cc hi j pv ac w R hnh Q hQ))⟩
        | false =>
          change step b F (exec F fuel) wm e nx h = _ at H
          obtain ⟨M, Cc⟩ := ihb wm e nx h out e' nx' h' H Ls N b' hc.2
          exact ⟨M, fun hi j pv ac w R hnh Q hQ => wp_cond_false (hval hi j pv ac w R) (cwp_wp (Cc hi j pv ac w R hnh Q hQ))⟩
      | block id a iha =>
        intro wm e nx h out e' nx' h' H Ls N c' hc
        change Res.rec (motive := fun _ => Res) .fail (bkO id) (step a F (exec F fuel) wm e nx h) = _ at H
        cases c' <;> simp only [chkC, Bool.false_eq_true] at hc
        rename_i id' a'
        rw [Bool.and_eq_true] at hc
        have hid := beqT hc.1
        subst hid
        cases hr : step a F (exec F fuel) wm e nx h with
        | fail => rw [hr] at H; cases H
        | ok o1 e1 nx1 h1 =>
          rw [hr] at H
          obtain ⟨M1, C1⟩ := iha wm e nx h o1 e1 nx1 h1 hr Ls N a' hc.2
          have fin : ∀ o2, Res.ok o2 e1 nx1 h1 = .ok out e' nx' h' → (∀ (Q : Exit → Act → World → Prop) ac w, Q (exitOf o2) ac w → Exit.inBlock id Q (exitOf o1) ac w) → MovesC wm nx h nx' h' ∧ CodeOk Pr Ls N (.block id a') e nx h out e' nx' h' := by
            intro o2 H2 hx
            cases H2
            refine ⟨M1, ?_⟩
            intro hi j pv ac w R hnh Q hQ
            refine wp_block (cwp_wp (C1 hi j pv ac w R hnh _ ?_))
            intro j1 pv1 a1 w1 R1 F1 hd1
            exact hx Q a1 w1 (hQ j1 pv1 a1 w1 R1 F1 hd1)
          cases o1 with
          | norm => exact fin .norm H (fun Q ac w h => h)
          | ret => exact fin .ret H (fun Q ac w h => h)
          | exit i =>
            change Bool.rec (motive := fun _ => Res) (.ok (.exit i) e1 nx1 h1) (.ok .norm e1 nx1 h1) (Nat.beq i id) = _ at H
            cases hb : Nat.beq i id with
            | true =>
              rw [hb] at H
              have := beqT hb
              exact fin .norm H (fun Q ac w h => by show (if i = id then Q .normal ac w else Q (.exit i) ac w); rw [if_pos this]; exact h)
            | false =>
              rw [hb] at H
              have hne : i ≠ id := fun h => by rw [h, Nat.beq_refl] at hb; cases hb
              exact fin (.exit i) H (fun Q ac w h => by show (if i = id then Q .normal ac w else Q (.exit i) ac w); rw [if_neg hne]; exact h)
      | loop lv a iha =>
        intro wm e nx h out e' nx' h' H Ls N c' hc
        change keepK lv e .nl (fun e => Res.rec (motive := fun _ => Res) .fail (lpO (.loop lv a) F (exec F fuel) wm) (step a F (exec F fuel) wm e nx h)) = _ at H
        rw [keepK_eq] at H
        have hc0 := hc
        cases c' <;> simp only [chkC, Bool.false_eq_true] at hc
        rename_i a'
        cases hr : step a F (exec F fuel) wm (keep e lv .nl) nx h with
        | fail => simp only [hr] at H; cases H
        | ok o1 e1 nx1 h1 =>
          simp only [hr] at H
          obtain ⟨M1, C1⟩ := iha wm _ nx h o1 e1 nx1 h1 hr Ls N a' hc
          cases o1 with
          | norm =>
            change exec F fuel (.loop lv a) wm e1 nx1 h1 = _ at H
            obtain ⟨M2, C2⟩ := ihf _ _ _ _ _ _ _ _ _ H Ls N (.loop a') hc0
            refine ⟨M1.trans M2, ?_⟩
            intro hi j pv ac w R hnh Q hQ
            obtain ⟨pvk, Rk, Fk⟩ := R.keep lv
            refine LoopWp.round (cwp_wp (C1 hi j pvk ac w Rk (Nat.le_trans M2.le hnh) _ ?_))
            intro j1 pv1 a1 w1 R1 F1 hd1
            refine C2 hi j1 pv1 a1 w1 R1 hnh Q ?_
            intro j2 pv2 a2 w2 R2 F2 hd2
            exact hQ j2 pv2 a2 w2 R2 ((Fk.trans F1 (Nat.le_refl _)).trans F2 M1.le) (hd2.trans hd1)
          | exit id =>
            change Res.ok (.exit id) e1 nx1 h1 = _ at H
            cases H
            refine ⟨M1, ?_⟩
            intro hi j pv ac w R hnh Q hQ
            obtain ⟨pvk, Rk, Fk⟩ := R.keep lv
            exact LoopWp.round (cwp_wp (C1 hi j pvk ac w Rk hnh _ fun j1 pv1 a1 w1 R1 F1 hd1 => hQ j1 pv1 a1 w1 R1 (Fk.trans F1 (Nat.le_refl _)) hd1))
          | ret =>
            change Res.ok .ret e1 nx1 h1 = _ at H
            cases H
            refine ⟨M1, ?_⟩
            intro hi j pv ac w R hnh Q hQ
            obtain ⟨pvk, Rk, Fk⟩ := R.keep lv
            exact LoopWp.round (cwp_wp (C1 hi j pvk ac w Rk hnh _ fun j1 pv1 a1 w1 R1 F1 hd1 => hQ j1 pv1 a1 w1 R1 (Fk.trans F1 (Nat.le_refl _)) hd1))
    intro c wm e nx h out e' nx' h' H
    exact key c wm e nx h out e' nx' h' H

/-! ### The table -/

def Tr.All {α : Type} (Q : P → α → Prop) (t : Tr α) : Prop :=
  Tr.rec (motive := fun _ => (P → α → Prop) → Prop) (fun _ => True) (fun v _ _ il ir Q => Option.rec True (Q .z) v ∧ il (fun p => Q (.l p)) ∧ ir (fun p => Q (.r p))) t Q
theorem Tr.All.get {α : Type} : ∀ (t : Tr α) (Q : P → α → Prop), Tr.All Q t → ∀ p x, Tr.get? p t = some x → Q p x := by
  intro t
  induction t with
  | nl => intro Q _ p x h; rw [Tr.get_e] at h; cases h
  | nd v l r il ir =>
    intro Q h p x hx
    obtain ⟨h1, h2, h3⟩ := (h : Option.rec (motive := fun _ => Prop) True (Q .z) v ∧ Tr.All (fun p => Q (.l p)) l ∧ Tr.All (fun p => Q (.r p)) r)
    cases p with
    | z => rw [Tr.get_z] at hx; subst hx; exact h1
    | l p => rw [Tr.get_l] at hx; exact il _ h2 p x hx
    | r p => rw [Tr.get_r] at hx; exact ir _ h3 p x hx
theorem FOk.of {Pr : Program} {F : Tr Fd} (h : Tr.All (FdOk Pr) F) : FOk Pr F := fun f fd hf => Tr.All.get F _ h f fd hf
theorem fok {Pr : Program} {f : P} {fd : Fd} {n : Nat} {fn : Func} {Ls : List Nat} (hn : f.n = n) (hf : Pr.funcs[n]? = some fn) (hc : chkFd Pr Ls fn fd = true) : FdOk Pr f fd := by
  cases fd with
  | mk ps body rs => exact ⟨fn, Ls, by rw [hn]; exact hf, hc⟩
  | prim k => simp [chkFd] at hc

/-! ### A call from nothing -/

theorem Rel.start {hi : Nat} {a : Act} {w : World} : Rel (fun _ => False) a.tmps.size hi (fun _ => none) (fun _ => none) .nl .z .nl a w where
  fresh := fun k i h => nomatch h
  heap := fun k i h => nomatch h
  inj := fun k k' b s c s' c' h => nomatch h
  inr := fun k k' b s c s' h => nomatch h
  env := fun p v h => by rw [Tr.get_e] at h; cases h
  pvv := fun p b h => nomatch h
  pin := fun p q b h => nomatch h
  pfr := fun p b h => nomatch h
  pfo := fun p b h => nomatch h
  loc := fun p l h => by rw [Tr.get_e] at h; cases h
  size := rfl
  lt := fun k b s c h => nomatch h
  lr := fun k b s h => nomatch h
  top := fun k _ => Tr.get_e k

/-- What the small machine told of a call whose arguments lie in no memory. -/
theorem told_calls (hF : FOk Pr F) (hm : Pr.follows .mixedOrders = true) {fuel : Nat} {f : P} {vs : List DV} {v : DV} (H : told (call F fuel f vs .z .nl) = some v) {args : List Value} (hargs : ∀ j : J, VRt j vs args) (w : World) :
    Calls Pr f.n args.toArray w fun r w' => ∃ v' j', r = .returned v' ∧ RowKit.Grown w w' ∧ VR j' v v' := by
  cases hr : call F fuel f vs .z .nl with
  | fail => rw [hr] at H; cases H
  | ok out e' nx' h' =>
    rw [hr] at H
    obtain ⟨v1, nx1, h1, hk, hcall, _⟩ := call_sim hF (exec_sound hF hm fuel) (show callK F (exec F fuel) none f vs .nl .z .nl okV = _ from hr)
    change Res.ok .norm (.nd (some v1) .nl .nl) nx1 h1 = _ at hk
    cases hk
    have hv : v1 = v := by
      change Tr.get? .z (.nd (some v1) .nl .nl) = some v at H
      rw [Tr.get_z] at H; cases H; rfl
    subst hv
    refine (hcall _ _ nx'.n _ _ _ { tmps := #[], defers := [] } w Rel.start (Nat.le_refl _) args (hargs _)).mono ?_
    rintro r w' ⟨v', j', rfl, R', F', hv⟩
    refine ⟨v', j', rfl, ⟨⟨F'.os, F'.output, fun i hi => ?_⟩, F'.froz, F'.size⟩, hv⟩
    rw [F'.same i hi (fun k s c h => nomatch h) (fun p h => nomatch h)]
    cases w.heap[i]? with
    | none => rfl
    | some ob => cases ob <;> simp
theorem told_true (hF : FOk Pr F) (hm : Pr.follows .mixedOrders = true) {fuel : Nat} {f : P} (H : told (call F fuel f [] .z .nl) = some (.bool true)) (w : World) :
    Calls Pr f.n #[] w fun r w' => r = .returned (.bool true) ∧ RowKit.Grown w w' := by
  refine (told_calls hF hm H (args := []) (fun j => .nil) w).mono ?_
  rintro r w' ⟨v', j', rfl, hg, hv⟩
  cases hv
  exact ⟨rfl, hg⟩
end
end Go.Proofs.Ythdlkpmhjbaplaa.Dx
