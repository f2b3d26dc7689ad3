/- What looks at maps, or turns them, does what Go's operations do. No statement of this seat is proved here. -/
import Derived.Test.YtnoekfkfinjfgaaGreatDoorUi
import Derived.MapKept
import Derived.RangeFuncNested
import Derived.OrdersIn
import Derived.RangeFuncLeaves
set_option autoImplicit false
set_option linter.unusedSectionVars false
set_option linter.unusedSimpArgs false
set_option linter.unusedVariables false
noncomputable section
namespace Go.Proofs.YtnoekfkfinjfgaaGreatDoor.Dx
open Go
variable [Rho]

def keyOk (P : Program) (t : Nat) (st : Bool) (ks : List Nat) : Bool := match P.underlying t, st, ks with
  | some .string, false, [2] => true
  | some (.int _), false, [0] => true
  | some .bool, false, [1] => true
  | some (.struct _), true, ks => flatType3 P t ks
  | _, _, _ => false

theorem str_beq (s t : ByteArray) : (s == t) = (Nat.beq s.data.size t.data.size && Nat.beq (codeB s.data.toList) (codeB t.data.toList)) := by
  rw [beq_toListBytes, str_eq]

section
variable {Pr : Program} {j : J}
theorem now_sim {d : TypeDesc} {k : Nat} {v w : DV} {v' w' : Value} {b : Bool} (hd : (d = .string ∧ k = 2) ∨ (∃ i, d = .int i) ∧ k = 0 ∨ d = .bool ∧ k = 1) (hv : VR j v v') (hw : VR j w w') (h : ceK false [k] v w = some b) :
    Instr.sameNow d v' w' = some b := by
  have h : ceV [k] [v] [w] = some b := h
  rw [ceV_cons] at h
  have h1 : ce1 k v w = some b := by
    cases hc : ce1 k v w with
    | none => simp [hc] at h
    | some c => cases c <;> simp [hc, ceV] at h <;> rw [h]
  rcases hd with ⟨rfl, rfl⟩ | ⟨⟨i, rfl⟩, rfl⟩ | ⟨rfl, rfl⟩
  · match v, w, h1 with
    | .str n c, .str m c', h1 =>
      obtain ⟨s, rfl, e1, e2⟩ := hv.str_inv
      obtain ⟨s', rfl, e3, e4⟩ := hw.str_inv
      simp only [ce1, Option.some.injEq] at h1
      simp only [Instr.sameNow, str_beq, e1, e2, e3, e4, h1]
  · match v, w, h1 with
    | .int i x, .int i' y, h1 =>
      rw [hv.int_inv, hw.int_inv]
      simp only [ce1] at h1
      cases hs : sameK i i' with
      | false => rw [hs] at h1; cases h1
      | true =>
        rw [hs] at h1; simp only [Option.some.injEq] at h1
        have := sameK_eq hs; subst this
        simp only [Instr.sameNow, if_true, ← h1, ieq_eq]; rfl
  · match v, w, h1 with
    | .bool x, .bool y, h1 =>
      rw [hv.bool_inv, hw.bool_inv]
      simp only [ce1, Option.some.injEq] at h1
      simp only [Instr.sameNow, ← h1, beqB_eq]

/-- plain keys: found, as the small machine finds it -/
theorem findNow_sim {d : TypeDesc} {k : Nat} {key : DV} {key' : Value} (hd : (d = .string ∧ k = 2) ∨ (∃ i, d = .int i) ∧ k = 0 ∨ d = .bool ∧ k = 1) (hk : VR j key key') :
    ∀ {l : List (DV × DV)} {es : List MapEntry} (i : Nat) {r : Option (Nat × DV)}, VRm j l es → findV false [k] key l i = some r →
      (r = none ∧ Instr.findNow d key' es i = some none) ∨ ∃ q v v', r = some (q, v) ∧ Instr.findNow d key' es i = some (some (q, v')) ∧ VR j v v' ∧ i ≤ q ∧ q < i + es.length
  | [], _, i, r, .nil, h => by simp only [findV, Option.some.injEq] at h; subst h; exact .inl ⟨rfl, rfl⟩
  | (k1, v1) :: l, x :: es, i, r, .cons hk1 hv1 t, h => by
    simp only [findV] at h
    cases hc : ceK false [k] key k1 with
    | none => simp [hc] at h
    | some b =>
      have hs := now_sim hd hk hk1 hc
      cases b with
      | true =>
        simp only [hc, Option.some.injEq] at h; subst h
        exact .inr ⟨i, v1, x.val, rfl, by simp [Instr.findNow, hs], hv1, Nat.le_refl _, by simp⟩
      | false =>
        simp only [hc] at h
        rcases findNow_sim hd hk (i + 1) t h with ⟨h1, h2⟩ | ⟨q, v, v', h1, h2, h3, h4, h5⟩
        · exact .inl ⟨h1, by simp [Instr.findNow, hs, h2]⟩
        · exact .inr ⟨q, v, v', h1, by simp [Instr.findNow, hs, h2], h3, by omega, by simp only [List.length_cons]; omega⟩

/-- structs as keys -/
theorem eqStruct_sim {t : Nat} {ks : List Nat} {key k1 : DV} {key' k1' : Value} {b : Bool} (ht : flatType3 Pr t ks = true) (hk : VR j key key') (hk1 : VR j k1 k1') (h : ceK true ks key k1 = some b) (w : World) :
    (Op.equal t key' k1').run Pr w = .ok b w ∧ ∃ c c', key' = .agg c ∧ k1' = .agg c' := by
  match key, k1, h with
  | .agg l, .agg m, h =>
    obtain ⟨l', rfl, hl⟩ := hk.agg_inv
    obtain ⟨m', rfl, hm⟩ := hk1.agg_inv
    refine ⟨?_, _, _, rfl, rfl⟩
    unfold flatType3 at ht
    cases hu : Pr.underlying t with
    | none => simp [hu] at ht
    | some dt =>
      cases dt <;> simp only [hu, Bool.false_eq_true, Bool.and_eq_true, Bool.not_eq_true'] at ht
      rename_i fs
      obtain ⟨⟨hff, hsh⟩, hgt⟩ := ht
      have hfo : Pr.fieldsOf t = fs := by simp [Program.fieldsOf, hu]
      show (Op.equalIn 10000 t _ _).run Pr w = _
      rw [run_equalIn_struct w 9999 t _ _ (by rw [hfo, hu]) hsh, hfo]
      exact ces_sim l'.toArray m'.toArray 9998 w fs.toList 0 ks l m b hff (by simpa using hl) (by simpa using hm) h
theorem findAsk_sim {t : Nat} {ks : List Nat} {key : DV} {key' : Value} (ht : flatType3 Pr t ks = true) (hk : VR j key key') (w : World) :
    ∀ {l : List (DV × DV)} {es : List MapEntry} (i : Nat) {r : Option (Nat × DV)}, VRm j l es → findV true ks key l i = some r →
      (r = none ∧ (Instr.findAsking t key' es i).run Pr w = .ok none w) ∨ ∃ q v v', r = some (q, v) ∧ (Instr.findAsking t key' es i).run Pr w = .ok (some (q, v')) w ∧ VR j v v' ∧ i ≤ q ∧ q < i + es.length
  | [], _, i, r, .nil, h => by simp only [findV, Option.some.injEq] at h; subst h; exact .inl ⟨rfl, rfl⟩
  | (k1, v1) :: l, x :: es, i, r, .cons hk1 hv1 tl, h => by
    simp only [findV] at h
    cases hc : ceK true ks key k1 with
    | none => simp [hc] at h
    | some b =>
      have hs := (eqStruct_sim ht hk hk1 hc w).1
      cases b with
      | true =>
        simp only [hc, Option.some.injEq] at h; subst h
        exact .inr ⟨i, v1, x.val, rfl, by simp [Instr.findAsking, hs], hv1, Nat.le_refl _, by simp⟩
      | false =>
        simp only [hc] at h
        rcases findAsk_sim ht hk w (i + 1) tl h with ⟨h1, h2⟩ | ⟨q, v, v', h1, h2, h3, h4, h5⟩
        · exact .inl ⟨h1, by simp [Instr.findAsking, hs, h2]⟩
        · exact .inr ⟨q, v, v', h1, by simp [Instr.findAsking, hs, h2], h3, by omega, by simp only [List.length_cons]; omega⟩
theorem findNow_struct {fs : Array Field} {key : DV} {key' : Value} {ks : List Nat} (hk : VR j key key') : ∀ {l : List (DV × DV)} {es : List MapEntry} (i : Nat) {r : Option (Nat × DV)}, VRm j l es → findV true ks key l i = some r → es ≠ [] → Instr.findNow (.struct fs) key' es i = none
  | [], _, i, r, .nil, h, hn => absurd rfl hn
  | (k1, v1) :: l, x :: es, i, r, .cons hk1 hv1 tl, h, _ => by
    have : Instr.sameNow (.struct fs) key' x.key = none := rfl
    simp [Instr.findNow, this]

theorem part_run {Pr : Program} {f : Field} {k n : Nat} {xs : Array Value} {v' : Value} (hoff : f.offset = n) (hflat : flat3 Pr f.type k = true) (hv' : xs[n]? = some v') (W : World) : (part f.type xs f.offset).run Pr W = .ok v' W := by
  have hagg : ∀ W : World, (isAgg f.type).run Pr W = .ok false W := by
    intro W
    unfold flat3 at hflat
    cases hu : Pr.underlying f.type with
    | none => simp [hu] at hflat
    | some dd => exact run_isAgg_plain hu (by cases dd <;> simp [hu] at hflat <;> rfl) W
  simp [part, hagg, hoff, hv']
theorem check_plain {Pr : Program} {t k : Nat} (hf : flat3 Pr t k = true) (em : Bool) (n : Nat) (v : Value) (W : World) : (Instr.checkKey em (n + 1) t v).run Pr W = .ok () W := by
  unfold flat3 at hf
  cases hu : Pr.underlying t with
  | none => simp [hu] at hf
  | some dd =>
    cases dd <;> simp [hu] at hf <;> (unfold Instr.checkKey; simp only [Sem.run_bind, run_underlying hu, Result.andThen_ok]; rfl)
theorem check_fields {Pr : Program} {em : Bool} {m : Nat} (xs : Array Value) (W : World) : ∀ (fs : List Field) (n : Nat) (ks : List Nat), flatFields3 Pr fs n ks = true → n + ks.length ≤ xs.size →
    (do for f in fs do
          if f.name ≠ "_" then Instr.checkKey em (m + 1) f.type (← part f.type xs f.offset) : Sem Unit).run Pr W = .ok () W
  | [], _, _, _, _ => rfl
  | f :: fs, n, [], hf, _ => by simp [flatFields3] at hf
  | f :: fs, n, k :: ks, hf, hs => by
    simp only [flatFields3, Bool.and_eq_true, Bool.not_eq_true', Nat.beq_eq] at hf
    obtain ⟨⟨⟨hname, hoff⟩, hflat⟩, hrest⟩ := hf
    simp only [List.length_cons] at hs
    have hne : f.name ≠ "_" := by simpa using hname
    have hlt : n < xs.size := by omega
    have hp := part_run (Pr := Pr) (v' := xs[n]) hoff hflat (Array.getElem?_eq_getElem hlt) W
    have IH := check_fields (em := em) (m := m) xs W fs (n + 1) ks hrest (by omega)
    simp only [List.forIn_cons, Sem.run_bind] at IH ⊢
    simp [hne, hp, check_plain hflat] at IH ⊢
    exact IH
theorem ceV_length {ks : List Nat} : ∀ {l m : List DV} {b : Bool}, ceV ks l m = some b → l.length = ks.length := by
  induction ks with
  | nil => intro l m b h; cases l <;> cases m <;> simp [ceV] at h; rfl
  | cons k ks ih =>
    intro l m b h
    cases l with
    | nil => simp [ceV] at h
    | cons v l =>
      cases m with
      | nil => simp [ceV] at h
      | cons w m =>
        rw [ceV_cons] at h
        cases hc : ce1 k v w with
        | none => simp [hc] at h
        | some c =>
          cases c with
          | true => simp only [hc] at h; simp [ih h]
          | false =>
            simp only [hc] at h
            cases hr : ceV ks l m with
            | none => simp [hr] at h
            | some r => simp [ih hr]

def plainK (d : TypeDesc) (k : Nat) : Prop := (d = .string ∧ k = 2) ∨ (∃ i, d = .int i) ∧ k = 0 ∨ d = .bool ∧ k = 1
theorem keyOk_spec {t : Nat} {st : Bool} {ks : List Nat} (h : keyOk Pr t st ks = true) :
    (st = false ∧ ∃ d k, Pr.underlying t = some d ∧ ks = [k] ∧ plainK d k ∧ flat3 Pr t k = true) ∨ (st = true ∧ flatType3 Pr t ks = true ∧ ∃ fs, Pr.underlying t = some (.struct fs)) := by
  unfold keyOk at h
  split at h
  · rename_i hu; exact .inl ⟨rfl, _, 2, hu, rfl, .inl ⟨rfl, rfl⟩, by simp [flat3, hu]⟩
  · rename_i k hu; exact .inl ⟨rfl, _, 0, hu, rfl, .inr (.inl ⟨⟨_, rfl⟩, rfl⟩), by simp [flat3, hu]⟩
  · rename_i hu; exact .inl ⟨rfl, _, 1, hu, rfl, .inr (.inr ⟨rfl, rfl⟩), by simp [flat3, hu]⟩
  · rename_i fs hu; exact .inr ⟨rfl, h, _, hu⟩
  · cases h
/-- The key is looked at. -/
theorem check_sim {t : Nat} {st : Bool} {ks : List Nat} {key : DV} {key' : Value} {b : Bool} (h : keyOk Pr t st ks = true) (hk : VR j key key') (hs : ceK st ks key key = some b) (em : Bool) (W : World) :
    (Instr.checkKey em 10000 t key').run Pr W = .ok () W := by
  rcases keyOk_spec h with ⟨rfl, d, k, hu, rfl, hp, hf⟩ | ⟨rfl, hf, fs, hu⟩
  · exact check_plain hf em 9999 key' W
  · cases key <;> simp only [ceK, reduceCtorEq] at hs
    rename_i l
    obtain ⟨l', rfl, hl⟩ := hk.agg_inv
    have hlen := ceV_length hs
    have hl2 := hl.length
    unfold flatType3 at hf
    rw [hu] at hf
    simp only [Bool.and_eq_true, Bool.not_eq_true'] at hf
    unfold Instr.checkKey
    simp only [Sem.run_bind, run_underlying hu, Result.andThen_ok]
    have := check_fields (em := em) (m := 9998) l'.toArray W fs.toList 0 ks hf.1.1 (by simp; omega)
    rw [← Array.forIn_toList]
    rw [Sem.run_bind] at this
    exact this
/-- What is found. -/
theorem find_sim {t : Nat} {st : Bool} {ks : List Nat} {key : DV} {key' : Value} (h : keyOk Pr t st ks = true) (hk : VR j key key') {l : List (DV × DV)} {es : List MapEntry} (hl : VRm j l es) {r : Option (Nat × DV)} (hf : findV st ks key l 0 = some r) (W : World) :
    (r = none ∧ (Instr.findKey t key' es).run Pr W = .ok none W) ∨ ∃ q v v', r = some (q, v) ∧ (Instr.findKey t key' es).run Pr W = .ok (some (q, v')) W ∧ VR j v v' ∧ q < es.length := by
  rcases keyOk_spec h with ⟨rfl, d, k, hu, rfl, hp, _⟩ | ⟨rfl, ht, fs, hu⟩
  · rcases findNow_sim hp hk 0 hl hf with ⟨h1, h2⟩ | ⟨q, v, v', h1, h2, h3, _, h5⟩
    · exact .inl ⟨h1, by simp [Instr.findKey, run_underlying hu, h2]⟩
    · exact .inr ⟨q, v, v', h1, by simp [Instr.findKey, run_underlying hu, h2], h3, by omega⟩
  · by_cases hne : es = []
    · subst hne
      cases hl
      simp only [findV, Option.some.injEq] at hf; subst hf
      exact .inl ⟨rfl, by simp [Instr.findKey, run_underlying hu, Instr.findNow]⟩
    · have h0 := findNow_struct (fs := fs) (ks := ks) hk 0 hl hf hne
      rcases findAsk_sim ht hk W 0 hl hf with ⟨h1, h2⟩ | ⟨q, v, v', h1, h2, h3, _, h5⟩
      · exact .inl ⟨h1, by simp [Instr.findKey, run_underlying hu, h0, h2]⟩
      · exact .inr ⟨q, v, v', h1, by simp [Instr.findKey, run_underlying hu, h0, h2], h3, by omega⟩
end

def mapIs (Pr : Program) (t : Nat) : Bool := match Pr.underlying t with | some (.map _ _) => true | _ => false
def chkLk (Pr : Program) (t : Nat) (st : Bool) (ks : List Nat) (z : List DV) (agg : Bool) : Bool := match Pr.underlying t with
  | some (.map kt et) => keyOk Pr kt st ks && (match Pr.info? et with | some it => (match it.zero with | some zv => okCode (zeroV agg z) zv | none => false) | none => false)
  | _ => false
def chkUp (Pr : Program) (t : Nat) (st : Bool) (ks : List Nat) : Bool := match Pr.underlying t with
  | some (.map kt _) => keyOk Pr kt st ks
  | _ => false
def chkMx (Pr : Program) (m : Mx) (ds : List Opd) (o : Go.Op) : Bool :=
  match m, ds, o with
  | .mmk, [], .makeMap _ none => true
  | .mmk, [d], .makeMap t (some x) => chkOpd d x && mapIs Pr t
  | .mlk st ks z agg ok, [d, d'], .lookup t x i c => chkOpd d x && chkOpd d' i && decide (ok = c) && chkLk Pr t st ks z agg
  | .mup st ks, [d, d', d2], .mapUpdate t m k x => chkOpd d m && chkOpd d' k && chkOpd d2 x && chkUp Pr t st ks
  | .mup st ks, [d, d', d2], .insert t m k x => chkOpd d m && chkOpd d' k && chkOpd d2 x && chkUp Pr t st ks
  | .men st ks z agg, [d, d'], .mapEntry t m k => chkOpd d m && chkOpd d' k && chkLk Pr t st ks z agg
  | .mes, [d, d', d2], .entryStore _ m s x => chkOpd d m && chkOpd d' s && chkOpd d2 x
  | .mln, [d], .call ⟨.builtin .len, ⟨[x]⟩, ⟨[t]⟩⟩ => chkOpd d x && mapIs Pr t
  | .cpy sz, [d, d'], .call ⟨.builtin .copy, ⟨[x, y]⟩, ⟨[t, _]⟩⟩ => chkOpd d x && chkOpd d' y && sliceIs Pr t sz
  | _, _, _ => false

section
variable {Pr : Program} {o : Oper} {e : Env} {nx : P} {h : Hp} {wm : Option P}

theorem mapIs_spec {t : Nat} (h : mapIs Pr t = true) : ∃ k v, Pr.underlying t = some (.map k v) := by
  unfold mapIs at h
  cases hu : Pr.underlying t with
  | none => simp [hu] at h
  | some d => cases d <;> simp [hu] at h; exact ⟨_, _, rfl⟩

theorem memOk_mmk {r : Option Operand} {t : Nat} (ho : o.op = .makeMap t r) (hr : r = none ∨ ∃ x k v, r = some x ∧ Pr.underlying t = some (.map k v) ∧ ∀ (j : J) (pv : P → Option Nat) (ρ : Operand → Value), Reads j pv e ρ → ∃ i n, ρ x = .int i n) :
    MemOk Pr o e nx h e (.mp nx) nx.suc (Tr.set nx h (some (.mp []))) := by
  intro L N hi j pv a w R hnh
  rw [P.n_suc] at hnh
  obtain ⟨R', F'⟩ := R.map_new (by omega)
  refine ⟨_, _, .value (.map (some w.heap.size)), .map (some w.heap.size), ?_, .inl rfl, R', F', XD.of_VR (VR.mpA (J.put_self _ _ _))⟩
  rcases hr with rfl | ⟨x, k, v, rfl, hu, hx⟩
  · simp [execOp, ho, Instr.makeMap, newObj, Sem.run]
  · obtain ⟨i, n, hx⟩ := hx j pv a.eval R.reads
    simp [execOp, ho, Instr.makeMap, newObj, Sem.run, run_underlying hu, hx, asInt, asIntOf]

theorem okV2_rel {j : J} {pv : P → Option Nat} {ok b : Bool} {v : DV} {v' : Value} (hv : VR j v v') : XD j pv (okV2 ok v b) (if ok = true then .tuple #[v', .bool b] else v') := by
  cases ok with
  | true => exact XD.of_VR (VR.tup (l' := [v', .bool b]) (.cons hv (.cons (.bool _) .nil)))
  | false => exact XD.of_VR hv
theorem memOk_mlk {d d' : Opd} {x i : Operand} {t : Nat} {st ok agg : Bool} {ks : List Nat} {z : List DV} {v : DV} {f : Ef} (ho : o.op = .lookup t x i ok) (hd : chkOpd d x = true) (hi : chkOpd d' i = true) (hc : chkLk Pr t st ks z agg = true)
    (hv : mxV (.mlk st ks z agg ok) wm [ov d e, ov d' e] nx h = some (v, f)) : f = .no ∧ MemOk Pr o e nx h e v nx h := by
  have hv0 := hv
  have key0 : f = .no := by
    generalize ov d e = m at hv
    generalize ov d' e = key at hv
    cases m <;> simp only [mxV, reduceCtorEq] at hv
    · rename_i mk
      cases hm : ceK st ks key key with
      | none => simp [hm] at hv
      | some b =>
        cases hl : mapOf h mk with
        | none => simp [hm, hl] at hv
        | some l =>
          simp only [hm, hl] at hv
          cases hf : findV st ks key l 0 with
          | none => simp [hf] at hv
          | some r => cases r <;> simp [hf] at hv <;> exact hv.2.symm
    · cases hm : ceK st ks key key with
      | none => simp [hm] at hv
      | some b => simp [hm] at hv; exact hv.2.symm
  refine ⟨key0, ?_⟩
  subst key0
  intro L N hi' j pv a w R hnh
  have hx := R.reads.ov hd
  have hy := R.reads.ov hi
  unfold chkLk at hc
  cases hu : Pr.underlying t with
  | none => simp [hu] at hc
  | some dt =>
    cases dt <;> simp only [hu, Bool.false_eq_true, Bool.and_eq_true] at hc
    rename_i kt et
    obtain ⟨hk, hz⟩ := hc
    cases hit : Pr.info? et with
    | none => simp [hit] at hz
    | some it =>
      cases hzv : it.zero with
      | none => simp [hit, hzv] at hz
      | some zv =>
        simp only [hit, hzv] at hz
        have hzr : (zeroValue et).run Pr w = .ok zv w := by simp [zeroValue, typeInfo, hit, hzv]
        have hzx : VR j (zeroV agg z) zv := okC_sound j _ _ hz
        generalize ov d e = m at hv hx
        generalize ov d' e = key at hv hy
        cases m <;> simp only [mxV, reduceCtorEq] at hv
        case nilm =>
          cases hm : ceK st ks key key with
          | none => simp [hm] at hv
          | some b =>
            simp only [hm, Option.some.injEq, Prod.mk.injEq, and_true] at hv; subst hv
            have hx' : a.eval x = .map none := by generalize a.eval x = u at hx; cases hx; rfl
            have h1 := check_sim hk hy hm true w
            rcases find_sim hk hy (l := []) (es := []) .nil (r := none) rfl w with ⟨_, h2⟩ | ⟨_, _, _, h2, _⟩
            · refine ⟨j, w, _, _, ?_, .inl rfl, R, Fr.refl _ _ _ _ _, okV2_rel hzx⟩
              simp [execOp, ho, Instr.lookup, run_underlying hu, hx', h1, h2, hzr]
            · cases h2
        case mp m =>
          cases hm : ceK st ks key key with
          | none => simp [hm] at hv
          | some b =>
            cases hl : mapOf h m with
            | none => simp [hm, hl] at hv
            | some l =>
              simp only [hm, hl] at hv
              have hg : Tr.get? m h = some (.mp l) := by
                unfold mapOf at hl
                cases hg : Tr.get? m h with
                | none => simp [hg] at hl
                | some ob => cases ob <;> simp [hg] at hl; rw [hl]
              have hlt : m.n < nx.n := by
                rcases Nat.lt_or_ge m.n nx.n with h1 | h1
                · exact h1
                · rw [R.top m h1] at hg; cases hg
              have hxx : ∃ r es n, a.eval x = .map (some r) ∧ w.heap[r]? = some (.map es n) ∧ VRm j l es.toList := by
                generalize a.eval x = u at hx
                cases hx with
                | mpA hj =>
                  obtain ⟨l0, es, n, hg0, hr, hvm, hbn⟩ := (R.heap m _ hj hlt : HR j h w m (.mp _))
                  rw [hg] at hg0; cases hg0
                  exact ⟨_, es, n, rfl, hr, hvm⟩
                | mpD r hj =>
                  have hg' : Tr.get? m h = some .dead := R.heap m _ hj hlt
                  rw [hg] at hg'; cases hg'
              obtain ⟨r, es, n, hx', hr, hvm⟩ := hxx
              have h1 := check_sim hk hy hm es.isEmpty w
              cases hf : findV st ks key l 0 with
              | none => simp [hf] at hv
              | some q =>
                rcases find_sim hk hy hvm hf w with ⟨rfl, h2⟩ | ⟨q1, u, u', rfl, h2, h3, h4⟩
                · simp only [hf, Option.some.injEq, Prod.mk.injEq, and_true] at hv; subst hv
                  refine ⟨j, w, _, _, ?_, .inl rfl, R, Fr.refl _ _ _ _ _, okV2_rel hzx⟩
                  simp [execOp, ho, Instr.lookup, run_underlying hu, hx', MapKept.run_getObj_map hr, h1, h2, hzr]
                · simp only [hf, Option.some.injEq, Prod.mk.injEq, and_true] at hv; subst hv
                  refine ⟨j, w, _, _, ?_, .inl rfl, R, Fr.refl _ _ _ _ _, okV2_rel h3⟩
                  simp [execOp, ho, Instr.lookup, run_underlying hu, hx', MapKept.run_getObj_map hr, h1, h2, hzr]

theorem findV_at {st : Bool} {ks : List Nat} {key : DV} : ∀ {l : List (DV × DV)} {i q : Nat} {v : DV}, findV st ks key l i = some (some (q, v)) → i ≤ q ∧ ∃ k1, l[q - i]? = some (k1, v) ∧ ceK st ks key k1 = some true
  | [], i, q, v, h => by simp [findV] at h
  | (k1, v1) :: l, i, q, v, h => by
    simp only [findV] at h
    cases hc : ceK st ks key k1 with
    | none => simp [hc] at h
    | some b =>
      cases b with
      | true =>
        simp only [hc, Option.some.injEq, Prod.mk.injEq] at h
        obtain ⟨rfl, rfl⟩ := h
        exact ⟨Nat.le_refl _, k1, by simp, hc⟩
      | false =>
        simp only [hc] at h
        obtain ⟨h1, k2, h2, h3⟩ := findV_at h
        exact ⟨by omega, k2, by rw [show q - i = (q - (i + 1)) + 1 by omega]; simpa using h2, h3⟩
theorem VRm.get {j : J} : ∀ {l : List (DV × DV)} {es : List MapEntry} {i : Nat} {k v : DV}, VRm j l es → l[i]? = some (k, v) → ∃ x, es[i]? = some x ∧ VR j k x.key ∧ VR j v x.val
  | _, _, i, k, v, .nil, h => by simp at h
  | _, _, 0, k, v, .cons hk hv t, h => by simp at h; obtain ⟨rfl, rfl⟩ := h; exact ⟨_, rfl, hk, hv⟩
  | _, _, i + 1, k, v, .cons hk hv t, h => by simpa using VRm.get t (by simpa using h)
theorem VRm.set {j : J} {key v : DV} {x : MapEntry} (hk : VR j key x.key) (hv : VR j v x.val) : ∀ {l : List (DV × DV)} {es : List MapEntry} (i : Nat), VRm j l es → VRm j (setAt (key, v) l i) (es.set i x)
  | _, _, i, .nil => by simpa [setAt] using VRm.nil
  | _, _, 0, .cons _ _ t => .cons hk hv t
  | _, _, i + 1, .cons h1 h2 t => .cons h1 h2 (VRm.set hk hv i t)
theorem VRm.modify {j : J} {key v : DV} {g : MapEntry → MapEntry} (hk : ∀ x, VR j key (g x).key) (hv : ∀ x, VR j v (g x).val) : ∀ {l : List (DV × DV)} {es : List MapEntry} (i : Nat), VRm j l es → VRm j (setAt (key, v) l i) (es.modify i g)
  | _, _, i, .nil => by simpa [setAt] using VRm.nil
  | _, _, 0, .cons _ _ t => by simpa [setAt] using VRm.cons (hk _) (hv _) t
  | _, _, i + 1, .cons h1 h2 t => by simpa [setAt] using VRm.cons h1 h2 (VRm.modify hk hv i t)
theorem VRm.modify_at {j : J} {key v : DV} {x : MapEntry} {g : MapEntry → MapEntry} (hk : VR j key (g x).key) (hv : VR j v (g x).val) : ∀ {l : List (DV × DV)} {es : List MapEntry} {i : Nat}, es[i]? = some x → VRm j l es → VRm j (setAt (key, v) l i) (es.modify i g)
  | _, _, i, h, .nil => by simp at h
  | _, _, 0, h, .cons _ _ t => by simp at h; subst h; simpa [setAt] using VRm.cons hk hv t
  | _, _, i + 1, h, .cons h1 h2 t => by simpa [setAt] using VRm.cons h1 h2 (VRm.modify_at hk hv (by simpa using h) t)
theorem VRm.push {j : J} {key v : DV} {x : MapEntry} (hk : VR j key x.key) (hv : VR j v x.val) : ∀ {l : List (DV × DV)} {es : List MapEntry}, VRm j l es → VRm j (l ++ [(key, v)]) (es ++ [x])
  | _, _, .nil => .cons hk hv .nil
  | _, _, .cons h1 h2 t => .cons h1 h2 (VRm.push hk hv t)
theorem VRm.length {j : J} : ∀ {l : List (DV × DV)} {es : List MapEntry}, VRm j l es → l.length = es.length
  | _, _, .nil => rfl
  | _, _, .cons _ _ t => by simp [VRm.length t]
theorem bits1 {j : J} {v w : DV} {v' w' : Value} {k : Nat} (hv : VR j v v') (hw : VR j w w') (h : ce1 k v w = some true) (n : Nat) : Instr.sameBits n w' v' = true := by
  match k, v, w, h with
  | 0, .int i x, .int i' y, h =>
    rw [hv.int_inv, hw.int_inv]
    simp only [ce1] at h
    cases hs : sameK i i' with
    | false => rw [hs] at h; cases h
    | true =>
      rw [hs] at h; simp only [Option.some.injEq, ieq_eq, decide_eq_true_eq] at h
      have := sameK_eq hs; subst this; subst h
      cases n <;> simp [Instr.sameBits]
  | 1, .bool x, .bool y, h =>
    rw [hv.bool_inv, hw.bool_inv]
    simp only [ce1, Option.some.injEq, beqB_eq, beq_iff_eq] at h
    subst h
    cases n <;> simp [Instr.sameBits]
  | 2, .str a c, .str a' c', h =>
    obtain ⟨s, rfl, h1, h2⟩ := hv.str_inv
    obtain ⟨s', rfl, h3, h4⟩ := hw.str_inv
    simp only [ce1, Option.some.injEq, Bool.and_eq_true, Nat.beq_eq] at h
    have : (s' == s) = true := by
      rw [str_beq, h1, h2, h3, h4, Bool.and_eq_true, Nat.beq_eq, Nat.beq_eq]; exact ⟨h.1.symm, h.2.symm⟩
    cases n <;> simp only [Instr.sameBits, this]
theorem bitsL {j : J} (n : Nat) : ∀ {ks : List Nat} {l m : List DV} {l' m' : List Value}, VRs j l l' → VRs j m m' → ceV ks l m = some true → m'.length = l'.length ∧ (m'.zip l').all (fun (x, y) => Instr.sameBits n x y) = true
  | [], l, m, l', m', hl, hm, h => by
    cases hl <;> cases hm <;> simp [ceV] at h
    exact ⟨rfl, rfl⟩
  | k :: ks, [], _, _, _, _, _, h => by simp [ceV] at h
  | k :: ks, _ :: _, [], _, _, _, _, h => by simp [ceV] at h
  | k :: ks, v :: l, w :: m, _, _, .cons hv _ hl, .cons hw _ hm, h => by
    rw [ceV_cons] at h
    cases hc : ce1 k v w with
    | none => simp [hc] at h
    | some b =>
      cases b with
      | false =>
        simp only [hc] at h
        cases hr : ceV ks l m with
        | none => simp [hr] at h
        | some r => simp [hr] at h
      | true =>
        simp only [hc] at h
        obtain ⟨h1, h2⟩ := bitsL n hl hm h
        refine ⟨by simp [h1], ?_⟩
        simp only [List.zip_cons_cons, List.all_cons, Bool.and_eq_true]
        exact ⟨bits1 hv hw hc n, h2⟩
theorem bits_sim {j : J} {st : Bool} {ks : List Nat} {k1 k2 : DV} {v1 v2 : Value} (h1 : VR j k1 v1) (h2 : VR j k2 v2) (h : ceK st ks k1 k2 = some true) : Instr.sameBits 10000 v2 v1 = true := by
  cases st with
  | false =>
    have h : ceV ks [k1] [k2] = some true := h
    cases ks with
    | nil => simp [ceV] at h
    | cons k ks =>
      rw [ceV_cons] at h
      cases hc : ce1 k k1 k2 with
      | none => simp [hc] at h
      | some b =>
        cases b with
        | true => exact bits1 h1 h2 hc _
        | false =>
          simp only [hc] at h
          cases hr : ceV ks [] [] with
          | none => simp [hr] at h
          | some r => simp [hr] at h
  | true =>
    cases k1 <;> cases k2 <;> simp only [ceK, reduceCtorEq] at h
    obtain ⟨l', rfl, hl⟩ := h1.agg_inv
    obtain ⟨m', rfl, hm⟩ := h2.agg_inv
    obtain ⟨e1, e2⟩ := bitsL 9999 hl hm h
    have : Instr.sameBits 10000 (.agg m'.toArray) (.agg l'.toArray) = ((m'.toArray.size == l'.toArray.size) && (m'.toArray.toList.zip l'.toArray.toList).all fun (x, y) => Instr.sameBits 9999 x y) := rfl
    rw [this]
    simp only [List.size_toArray, Bool.and_eq_true, beq_iff_eq]
    exact ⟨e1, e2⟩

/-- A map's entries are turned. -/
theorem memOk_mapset {d : Opd} {m : Operand} {b : P} {l l2 : List (DV × DV)} {v : DV} (hd : chkOpd d m = true) (hm0 : ov d e = .mp b) (hg : Tr.get? b h = some (.mp l))
    (H : ∀ (L : P → Prop) (N hi : Nat) (j : J) (pv : P → Option Nat) (a : Act) (w : World) (r : Nat) (es : Array MapEntry) (n : Nat), Rel L N hi j pv e nx h a w → a.eval m = .map (some r) → w.heap[r]? = some (.map es n) → VRm j l es.toList → Born es.toList n →
      ∃ es' n' res v', VRm j l2 es'.toList ∧ Born es'.toList n' ∧ (execOp a.eval o).run Pr w = .ok res { w with heap := w.heap.setIfInBounds r (.map es' n') } ∧ (res = .value v' ∨ res = .skip ∧ v' = undef) ∧ VR j v v') :
    MemOk Pr o e nx h e v nx (Tr.set b h (some (.mp l2))) := by
  intro L N hi' j pv a w R hnh
  have hx := R.reads.ov hd
  have hlt : b.n < nx.n := by
    rcases Nat.lt_or_ge b.n nx.n with h1 | h1
    · exact h1
    · rw [R.top b h1] at hg; cases hg
  rw [hm0] at hx
  have hxx : ∃ r es n, a.eval m = .map (some r) ∧ w.heap[r]? = some (.map es n) ∧ VRm j l es.toList ∧ Born es.toList n ∧ j b = some (.mp r) := by
    generalize a.eval m = u at hx
    cases hx with
    | mpA hj =>
      obtain ⟨l0, es, n, hg0, hr, hvm, hbn⟩ := (R.heap b _ hj hlt : HR j h w b (.mp _))
      rw [hg] at hg0; cases hg0
      exact ⟨_, es, n, rfl, hr, hvm, hbn, hj⟩
    | mpD r hj =>
      have hg' : Tr.get? b h = some .dead := R.heap b _ hj hlt
      rw [hg] at hg'; cases hg'
  obtain ⟨r, es, n, hx', hr, hvm, hbn, hj⟩ := hxx
  obtain ⟨es', n', res, v', hv2, hb2, hrun, hres, hvr⟩ := H L N hi' j pv a w r es n R hx' hr hvm hbn
  have hrl : r < w.heap.size := (Array.getElem?_eq_some_iff.1 hr).1
  obtain ⟨R', F'⟩ := R.map_set (w' := { w with heap := w.heap.setIfInBounds r (.map es' n') }) hnh hj hlt hv2 hb2 (n' := n')
    (by simp [Array.getElem?_setIfInBounds, hrl]) (by simp) (fun x hx => by simp [Array.getElem?_setIfInBounds, Ne.symm hx]) rfl rfl
  exact ⟨j, _, res, v', hrun, hres, R', F', XD.of_VR hvr⟩

theorem mapOf_spec {m : P} {l : List (DV × DV)} (hl : mapOf h m = some l) : Tr.get? m h = some (.mp l) := by
  unfold mapOf at hl
  cases hg : Tr.get? m h with
  | none => simp [hg] at hl
  | some ob => cases ob <;> simp [hg] at hl; rw [hl]
theorem Born.push {es : Array MapEntry} {n : Nat} (hb : Born es.toList n) (k v : Value) : Born (es.push { key := k, val := v, born := n }).toList (n + 1) := by
  obtain ⟨h1, h2⟩ := hb
  rw [Array.toList_push]
  refine ⟨by simp [h1], fun i x hx => ?_⟩
  by_cases hi : i < es.toList.length
  · rw [List.getElem?_append_left hi] at hx; exact h2 i x hx
  · rw [List.getElem?_append_right (by omega)] at hx
    rcases Nat.eq_zero_or_pos (i - es.toList.length) with h0 | h0
    · rw [h0] at hx; simp only [List.getElem?_cons_zero, Option.some.injEq] at hx; subst hx; show n = i; rw [h1]; omega
    · rw [List.getElem?_eq_none (by simp only [List.length_cons, List.length_nil]; omega)] at hx; cases hx
theorem Born.modify {es : Array MapEntry} {n : Nat} (hb : Born es.toList n) (i : Nat) {g : MapEntry → MapEntry} (hg : ∀ x, (g x).born = x.born) : Born (es.modify i g).toList n := by
  obtain ⟨h1, h2⟩ := hb
  rw [Array.toList_modify]
  refine ⟨by simp [h1], fun q x hx => ?_⟩
  rw [List.getElem?_modify] at hx
  cases hq : es.toList[q]? with
  | none => rw [hq] at hx; cases hx
  | some y =>
    rw [hq] at hx
    simp only [Option.map_eq_map, Option.map_some, Option.some.injEq] at hx
    have := h2 q y hq
    by_cases h : i = q
    · rw [if_pos h] at hx; rw [← hx, hg]; exact this
    · rw [if_neg h] at hx; rw [← hx]; exact this

theorem memOk_mup {d d' d2 : Opd} {m k x : Operand} {t : Nat} {st : Bool} {ks : List Nat} {v : DV} {f : Ef} (ho : o.op = .mapUpdate t m k x ∨ o.op = .insert t m k x) (hd : chkOpd d m = true) (hd' : chkOpd d' k = true) (hd2 : chkOpd d2 x = true)
    (hc : chkUp Pr t st ks = true) (hv : mxV (.mup st ks) wm [ov d e, ov d' e, ov d2 e] nx h = some (v, f)) :
    ∃ b y z, f = .set b y ∧ Tr.get? b h = some z ∧ mayB wm b = true ∧ MemOk Pr o e nx h e v nx (Tr.set b h (some y)) := by
  cases hm0 : ov d e <;> simp only [hm0, mxV, reduceCtorEq] at hv
  rename_i b
  cases hw0 : (mayB wm b && (ceK st ks (ov d' e) (ov d' e)).isSome) with
  | false => simp [hw0] at hv
  | true =>
    cases hl : mapOf h b with
    | none => simp [hw0, hl] at hv
    | some l =>
      simp only [hw0, hl] at hv
      rw [Bool.and_eq_true] at hw0
      obtain ⟨hmay, hself⟩ := hw0
      obtain ⟨c0, hself⟩ := Option.isSome_iff_exists.1 hself
      have hg := mapOf_spec hl
      unfold chkUp at hc
      cases hu : Pr.underlying t with
      | none => simp [hu] at hc
      | some dt =>
        cases dt <;> simp only [hu, Bool.false_eq_true] at hc
        rename_i kt et
        cases hf : findV st ks (ov d' e) l 0 with
        | none => simp [hf] at hv
        | some q =>
          cases q with
          | none =>
            simp only [hf, Option.some.injEq, Prod.mk.injEq] at hv
            obtain ⟨rfl, rfl⟩ := hv
            refine ⟨b, _, _, rfl, hg, hmay, memOk_mapset hd hm0 hg ?_⟩
            intro L N hi j pv a w r es n R hx' hr hvm hbn
            have hk := R.reads.ov hd'
            have hx := R.reads.ov hd2
            refine ⟨es.push { key := a.eval k, val := a.eval x, born := n }, n + 1, .skip, undef, by rw [Array.toList_push]; exact VRm.push (x := { key := a.eval k, val := a.eval x, born := n }) hk hx hvm, hbn.push _ _, ?_, .inr ⟨rfl, rfl⟩, VR.tup (l := []) (l' := []) .nil⟩
            rcases find_sim hc hk hvm hf w with ⟨_, h2⟩ | ⟨_, _, _, h2, _⟩
            · rcases ho with ho | ho <;> simp [execOp, ho, hx', Instr.mapUpdate, run_underlying hu, MapKept.run_getObj_map hr, check_sim hc hk hself false w, h2, MapKept.run_setObj_map _ hr]
            · cases h2
          | some q =>
            obtain ⟨i, v1⟩ := q
            simp only [hf, Option.some.injEq, Prod.mk.injEq] at hv
            obtain ⟨rfl, rfl⟩ := hv
            refine ⟨b, _, _, rfl, hg, hmay, memOk_mapset hd hm0 hg ?_⟩
            intro L N hi j pv a w r es n R hx' hr hvm hbn
            have hk := R.reads.ov hd'
            have hx := R.reads.ov hd2
            obtain ⟨_, k1, hk1, hce⟩ := findV_at hf
            rw [Nat.sub_zero] at hk1
            obtain ⟨x0, hx0, hkx, _⟩ := VRm.get hvm hk1
            have hb := bits_sim hk hkx hce
            refine ⟨es.modify i fun e => { e with key := a.eval k, val := a.eval x }, n, .skip, undef, by rw [Array.toList_modify]; exact VRm.modify (fun _ => hk) (fun _ => hx) i hvm, hbn.modify i (fun _ => rfl), ?_, .inr ⟨rfl, rfl⟩, VR.tup (l := []) (l' := []) .nil⟩
            rcases find_sim hc hk hvm hf w with ⟨h2, _⟩ | ⟨q, u, u', h2, h3, _, _⟩
            · cases h2
            · cases h2
              have hx1 : es[i]? = some x0 := by simpa using hx0
              rcases ho with ho | ho <;> simp [execOp, ho, hx', Instr.mapUpdate, run_underlying hu, MapKept.run_getObj_map hr, check_sim hc hk hself false w, h3, hx1, Instr.keyThatStays, hb, MapKept.run_setObj_map _ hr]

theorem memOk_men {d d' : Opd} {m k : Operand} {t : Nat} {st agg : Bool} {ks : List Nat} {z : List DV} {v : DV} {f : Ef} (ho : o.op = .mapEntry t m k) (hd : chkOpd d m = true) (hd' : chkOpd d' k = true)
    (hc : chkLk Pr t st ks z agg = true) (hv : mxV (.men st ks z agg) wm [ov d e, ov d' e] nx h = some (v, f)) :
    ∃ b y z, f = .set b y ∧ Tr.get? b h = some z ∧ mayB wm b = true ∧ MemOk Pr o e nx h e v nx (Tr.set b h (some y)) := by
  cases hm0 : ov d e <;> simp only [hm0, mxV, reduceCtorEq] at hv
  rename_i b
  cases hw0 : (mayB wm b && (ceK st ks (ov d' e) (ov d' e)).isSome) with
  | false => simp [hw0] at hv
  | true =>
    cases hl : mapOf h b with
    | none => simp [hw0, hl] at hv
    | some l =>
      simp only [hw0, hl] at hv
      rw [Bool.and_eq_true] at hw0
      obtain ⟨hmay, hself⟩ := hw0
      obtain ⟨c0, hself⟩ := Option.isSome_iff_exists.1 hself
      have hg := mapOf_spec hl
      unfold chkLk at hc
      cases hu : Pr.underlying t with
      | none => simp [hu] at hc
      | some dt =>
        cases dt <;> simp only [hu, Bool.false_eq_true, Bool.and_eq_true] at hc
        rename_i kt et
        obtain ⟨hc, hz⟩ := hc
        cases hit : Pr.info? et with
        | none => simp [hit] at hz
        | some it =>
          cases hzv : it.zero with
          | none => simp [hit, hzv] at hz
          | some zv =>
            simp only [hit, hzv] at hz
            have hzr : ∀ w : World, (zeroValue et).run Pr w = .ok zv w := by intro w; simp [zeroValue, typeInfo, hit, hzv]
            cases hf : findV st ks (ov d' e) l 0 with
            | none => simp [hf] at hv
            | some q =>
              cases q with
              | none =>
                simp only [hf, Option.some.injEq, Prod.mk.injEq] at hv
                obtain ⟨rfl, rfl⟩ := hv
                refine ⟨b, _, _, rfl, hg, hmay, memOk_mapset hd hm0 hg ?_⟩
                intro L N hi j pv a w r es n R hx' hr hvm hbn
                have hk := R.reads.ov hd'
                have hzx : VR j (zeroV agg z) zv := okC_sound j _ _ hz
                have hln := hvm.length
                have hn : n = l.length := by rw [hbn.1]; exact hln.symm
                subst hn
                refine ⟨es.push { key := a.eval k, val := zv, born := l.length }, l.length + 1, .value (.tuple #[zv, goInt l.length]), .tuple #[zv, goInt l.length], by rw [Array.toList_push]; exact VRm.push (x := { key := a.eval k, val := zv, born := l.length }) hk hzx hvm, hbn.push _ _, ?_, .inl rfl,
                  VR.tup (l' := [zv, goInt l.length]) (.cons hzx (.cons (VR.int _ _) .nil))⟩
                rcases find_sim hc hk hvm hf w with ⟨_, h2⟩ | ⟨_, _, _, h2, _⟩
                · simp [execOp, ho, hx', Instr.mapEntry, run_underlying hu, MapKept.run_getObj_map hr, check_sim hc hk hself false w, h2, hzr, MapKept.run_setObj_map _ hr]
                · cases h2
              | some q =>
                obtain ⟨i, v1⟩ := q
                simp only [hf, Option.some.injEq, Prod.mk.injEq] at hv
                obtain ⟨rfl, rfl⟩ := hv
                refine ⟨b, _, _, rfl, hg, hmay, memOk_mapset hd hm0 hg ?_⟩
                intro L N hi j pv a w r es n R hx' hr hvm hbn
                have hk := R.reads.ov hd'
                obtain ⟨_, k1, hk1, hce⟩ := findV_at hf
                rw [Nat.sub_zero] at hk1
                obtain ⟨x0, hx0, hkx, hvx⟩ := VRm.get hvm hk1
                have hb := bits_sim hk hkx hce
                have hx1 : es[i]? = some x0 := by simpa using hx0
                have hbi : x0.born = i := hbn.2 i x0 hx0
                rcases find_sim hc hk hvm hf w with ⟨h2, _⟩ | ⟨q, u, u', h2, h3, h4, _⟩
                · cases h2
                · cases h2
                  refine ⟨es.modify i fun e => { e with key := a.eval k }, n, .value (.tuple #[u', goInt i]), .tuple #[u', goInt i], ?_, hbn.modify i (fun _ => rfl), ?_, .inl rfl, VR.tup (l' := [u', goInt i]) (.cons h4 (.cons (VR.int _ _) .nil))⟩
                  · rw [Array.toList_modify]; exact VRm.modify_at (x := x0) (g := fun e => { e with key := a.eval k }) hk hvx hx0 hvm
                  · simp [execOp, ho, hx', Instr.mapEntry, run_underlying hu, MapKept.run_getObj_map hr, check_sim hc hk hself false w, h3, hx1, hbi, Instr.keyThatStays, hb, MapKept.run_setObj_map _ hr]

theorem findIdx_born {es : List MapEntry} {n i : Nat} {x : MapEntry} (hb : Born es n) (hx : es[i]? = some x) : es.findIdx? (fun e => (e.born : Int) == (Int.ofNat i)) = some i := by
  obtain ⟨hlt, hx'⟩ := List.getElem?_eq_some_iff.1 hx
  rw [List.findIdx?_eq_some_iff_getElem]
  refine ⟨hlt, ?_, fun q hq => ?_⟩
  · rw [hb.2 i _ (List.getElem?_eq_getElem hlt)]; simp
  · have : es[q].born = q := hb.2 q _ (List.getElem?_eq_getElem (by omega))
    rw [this]
    simp only [Int.ofNat_eq_natCast, beq_iff_eq]
    omega
theorem memOk_mes {d d' d2 : Opd} {m s x : Operand} {t : Nat} {v : DV} {f : Ef} (ho : o.op = .entryStore t m s x) (hd : chkOpd d m = true) (hd' : chkOpd d' s = true) (hd2 : chkOpd d2 x = true)
    (hv : mxV .mes wm [ov d e, ov d' e, ov d2 e] nx h = some (v, f)) :
    ∃ b y z, f = .set b y ∧ Tr.get? b h = some z ∧ mayB wm b = true ∧ MemOk Pr o e nx h e v nx (Tr.set b h (some y)) := by
  cases hm0 : ov d e <;> simp only [hm0, mxV, reduceCtorEq] at hv
  rename_i b
  cases hs0 : ov d' e <;> simp only [hs0, mxV, reduceCtorEq] at hv
  rename_i ik z
  cases z with
  | negSucc z => cases ik <;> simp [mxV] at hv
  | ofNat i =>
  obtain rfl : ik = .i64 := by cases ik <;> first | rfl | (simp [mxV] at hv; done)
  simp only [mxV] at hv
  cases hmay : mayB wm b with
  | false => simp [hmay] at hv
  | true =>
    cases hl : mapOf h b with
    | none => simp [hmay, hl] at hv
    | some l =>
      simp only [hmay, hl] at hv
      have hg := mapOf_spec hl
      cases hi : l[i]? with
      | none => simp [hi] at hv
      | some y =>
        obtain ⟨k1, v1⟩ := y
        simp only [hi, Option.some.injEq, Prod.mk.injEq] at hv
        obtain ⟨rfl, rfl⟩ := hv
        refine ⟨b, _, _, rfl, hg, hmay, memOk_mapset hd hm0 hg ?_⟩
        intro L N hi' j pv a w r es n R hx' hr hvm hbn
        have hsx := R.reads.ov hd'
        rw [hs0] at hsx
        have hx := R.reads.ov hd2
        obtain ⟨x0, hx0, hkx, hvx⟩ := VRm.get hvm hi
        have hfi := findIdx_born hbn hx0
        rw [show ∀ p, List.findIdx? p es.toList = Array.findIdx? p es from fun p => by cases es; simp] at hfi
        refine ⟨es.modify i fun e => { e with val := a.eval x }, n, .skip, undef, ?_, hbn.modify i (fun _ => rfl), ?_, .inr ⟨rfl, rfl⟩, VR.tup (l := []) (l' := []) .nil⟩
        · rw [Array.toList_modify]; exact VRm.modify_at (x := x0) (g := fun e => { e with val := a.eval x }) hkx hx hx0 hvm
        · have hse := hsx.int_inv
          have hfi : es.findIdx? (fun e => (e.born : Int) == (i : Int)) = some i := hfi
          have hse : a.eval s = .int .i64 (i : Int) := hse
          simp [execOp, ho, hx', hse, Instr.entryStore, MapKept.run_getObj_map hr, asInt, asIntOf, hfi, MapKept.run_setObj_map _ hr]

theorem memOk_mln {d : Opd} {x : Operand} {t : Nat} {b : P} {l : List (DV × DV)} (ho : o.op = .call ⟨.builtin .len, #[x], #[t]⟩) (hd : chkOpd d x = true) (ht : mapIs Pr t = true) (hb : ov d e = .mp b) (hl : mapOf h b = some l) :
    MemOk Pr o e nx h e (.int .i64 (.ofNat l.length)) nx h := by
  intro L N hi' j pv a w R hnh
  have hx := R.reads.ov hd
  obtain ⟨kt, et, hu⟩ := mapIs_spec ht
  have hg : Tr.get? b h = some (.mp l) := by
    unfold mapOf at hl
    cases hg : Tr.get? b h with
    | none => simp [hg] at hl
    | some ob => cases ob <;> simp [hg] at hl; rw [hl]
  have hlt : b.n < nx.n := by
    rcases Nat.lt_or_ge b.n nx.n with h1 | h1
    · exact h1
    · rw [R.top b h1] at hg; cases hg
  rw [hb] at hx
  have hxx : ∃ r es n, a.eval x = .map (some r) ∧ w.heap[r]? = some (.map es n) ∧ VRm j l es.toList := by
    generalize a.eval x = u at hx
    cases hx with
    | mpA hj =>
      obtain ⟨l0, es, n, hg0, hr, hvm, hbn⟩ := (R.heap b _ hj hlt : HR j h w b (.mp _))
      rw [hg] at hg0; cases hg0
      exact ⟨_, es, n, rfl, hr, hvm⟩
    | mpD r hj =>
      have hg' : Tr.get? b h = some .dead := R.heap b _ hj hlt
      rw [hg] at hg'; cases hg'
  obtain ⟨r, es, n, hx', hr, hvm⟩ := hxx
  have hlen := hvm.length
  simp only [Array.length_toList] at hlen
  refine ⟨j, w, _, _, ?_, .inl rfl, R, Fr.refl _ _ _ _ _, XD.of_VR (VR.int _ _)⟩
  simp [execOp, ho, resolve, invoke, builtin, Builtin.len_, hx', run_underlying hu, MapKept.run_getObj_map hr, hlen, goInt]

theorem exec_copy {x y : Operand} {t t' : Nat} (ho : o.op = .call ⟨.builtin .copy, #[x, y], #[t, t']⟩) (ρ : Operand → Value) (w : World) {v : Value} {w' : World}
    (hr : (Builtin.copy_ #[t, t'] o.type #[ρ x, ρ y]).run Pr w = .ok v w') : (execOp ρ o).run Pr w = .ok (.value v) w' := by
  simp only [execOp, ho, resolve, Sem.run_bind, Sem.run_pure, Result.andThen_ok, invoke, builtin]
  simp only [List.map_toArray, List.map_cons, List.map_nil]
  rw [hr]; rfl
theorem memOk_cpy {d d' : Opd} {x y : Operand} {t t' sz : Nat} (ho : o.op = .call ⟨.builtin .copy, #[x, y], #[t, t']⟩) (hd : chkOpd d x = true) (hd' : chkOpd d' y = true) (ht : sliceIs Pr t sz = true) {k k2 : P} {o1 n o2 n2 : Nat} {cp cp2 : Option Nat}
    {l c : List DV} (h1 : ov d e = .sl k o1 n cp sz) (h2 : ov d' e = .sl k2 o2 n2 cp2 sz) (hn : n2 ≤ n) (hn0 : 0 < n2) (hs : slcV h k2 o2 n2 sz = some c) (hg : Tr.get? k h = some (.cells l)) (hle : o1 + c.length ≤ l.length) :
    MemOk Pr o e nx h e (.int .i64 (.ofNat n2)) nx (Tr.set k h (some (.cells (l.take o1 ++ c ++ l.drop (o1 + c.length))))) := by
  intro L N hi' j pv a w R hnh
  have hx := R.reads.ov hd
  have hy := R.reads.ov hd'
  rw [h1] at hx
  rw [h2] at hy
  have hlt : k.n < nx.n := by
    rcases Nat.lt_or_ge k.n nx.n with h' | h'
    · exact h'
    · rw [R.top k h'] at hg; cases hg
  obtain ⟨vs, hv, hvl, hlen, hcells⟩ := R.slice_cells (Pr := Pr) (XD.of_VR hy) hs
  have hcl := hv.length
  have hcells := hcells w.drawn
  unfold sliceIs at ht
  cases hu : Pr.underlying t with
  | none => simp [hu] at ht
  | some dt =>
    cases dt <;> simp only [hu, Bool.false_eq_true, Bool.and_eq_true] at ht
    rename_i el
    obtain ⟨it, hit, hsz⟩ := sizeIs_spec ht.1
    have hse : ∀ W : World, (sizeOf el).run Pr W = .ok sz W := by intro W; simp [sizeOf, typeInfo, hit, hsz]
    generalize hxe : a.eval x = v' at hx
    cases hx with
    | slO hjk => obtain ⟨_, hg', _⟩ := R.heap k _ hjk hlt; rw [hg] at hg'; cases hg'
    | slD _ hjk => have hg' : Tr.get? k h = some .dead := R.heap k _ hjk hlt; rw [hg] at hg'; cases hg'
    | slE => omega
    | slA hjk hoff =>
      rename_i b s cc off cap q1 q2 q3
      obtain ⟨hlies, l', hg', hll, _⟩ := R.heap k _ hjk hlt
      rw [hg] at hg'; cases hg'
      obtain ⟨R', F'⟩ := R.at_store hnh hjk hlt hg hv hle
      have hso := hoff (.inl (by omega))
      subst hso
      refine ⟨j, _, _, .int .i64 (.ofNat n2), exec_copy ho a.eval w (w' := w.setCells b (s + o1) vs) ?_, .inl rfl, R', F', XD.of_VR (VR.int _ _)⟩
      have hst := run_storeCells_cells (P := Pr) b (s + o1) vs 0 w (fun q hq => by simpa using hlies.cell (s + o1 + q) (by omega)) (fun q hq => by simpa using hlies.free (s + o1 + q) (by omega) (by omega)) hv.ones
      rw [hxe]
      simp only [Nat.add_zero] at hst
      have hmin : Nat.min n2 n = n2 := Nat.min_eq_left hn
      simp only [Builtin.copy_, Sem.run_bind, Sem.run_pure, Result.andThen_ok, List.getElem?_toArray, List.getElem?_cons_zero, List.getElem?_cons_succ, run_underlying hu, hlen, hse, hmin]
      rw [show w = { w with drawn := w.drawn } from rfl, hcells]
      simp [hst, goInt]

theorem VR.sl_inv {j : J} {k : P} {o1 n : Nat} {cp : Option Nat} {sz : Nat} {v' : Value} (h : VR j (.sl k o1 n cp sz) v') : ∃ a cap, v' = .slice (some a) n cap := by cases h <;> exact ⟨_, _, rfl⟩
theorem memOk_cpy0 {d d' : Opd} {x y : Operand} {t t' sz : Nat} (ho : o.op = .call ⟨.builtin .copy, #[x, y], #[t, t']⟩) (hd : chkOpd d x = true) (hd' : chkOpd d' y = true) (ht : sliceIs Pr t sz = true) {k k2 : P} {o1 n o2 s s2 : Nat} {cp cp2 : Option Nat}
    (h1 : ov d e = .sl k o1 n cp s) (h2 : ov d' e = .sl k2 o2 0 cp2 s2) : MemOk Pr o e nx h e (.int .i64 (.ofNat 0)) nx h := by
  intro L N hi' j pv a w R hnh
  have hx := R.reads.ov hd
  have hy := R.reads.ov hd'
  rw [h1] at hx
  rw [h2] at hy
  obtain ⟨a1, c1, hx⟩ := hx.sl_inv
  obtain ⟨a2, c2, hy⟩ := hy.sl_inv
  unfold sliceIs at ht
  cases hu : Pr.underlying t with
  | none => simp [hu] at ht
  | some dt =>
    cases dt <;> simp only [hu, Bool.false_eq_true, Bool.and_eq_true] at ht
    rename_i el
    obtain ⟨it, hit, hsz⟩ := sizeIs_spec ht.1
    have hse : ∀ W : World, (sizeOf el).run Pr W = .ok sz W := by intro W; simp [sizeOf, typeInfo, hit, hsz]
    refine ⟨j, w, _, .int .i64 (.ofNat 0), exec_copy ho a.eval w (w' := w) ?_, .inl rfl, R, Fr.refl _ _ _ _ _, XD.of_VR (VR.int _ _)⟩
    have hz := run_loadCells_list (P := Pr) w a2 [] (fun q v hv => by simp at hv)
    rw [show ([] : List Value).length = 0 * sz by simp] at hz
    have hmin : Nat.min 0 n = 0 := Nat.zero_min n
    simp only [Builtin.copy_, Sem.run_bind, Sem.run_pure, Result.andThen_ok, List.getElem?_toArray, List.getElem?_cons_zero, List.getElem?_cons_succ, run_underlying hu, hse, hx, hy, Builtin.lenOf, hmin, Builtin.firstCells, hz]
    simp [storeCells, goInt]
theorem may_of {b : P} (h : mayB wm b = true) : may wm b := by
  intro m hm
  subst hm
  exact Nat.le_of_ble_eq_true h
theorem cutV_slcV {b : P} {l c : List DV} {o1 n sz : Nat} (h1 : blockV h b = some l) (h2 : cutV l o1 (n * sz) = some c) : slcV h b o1 n sz = some c := by
  unfold cutV at h2
  cases hb : Nat.ble (o1 + n * sz) l.length with
  | false => simp [hb] at h2
  | true =>
    simp only [hb, Option.some.injEq] at h2
    rw [Nat.ble_eq] at hb
    have : alive b h = some l := h1
    unfold slcV
    rw [this]
    simp only []
    rw [if_pos ⟨by omega, by simp; omega⟩, h2]
end
end Go.Proofs.YtnoekfkfinjfgaaGreatDoor.Dx

set_option autoImplicit false
set_option linter.unusedSectionVars false
set_option linter.unusedSimpArgs false
set_option linter.unusedVariables false
noncomputable section
namespace Go.Proofs.YtnoekfkfinjfgaaGreatDoor.Dx
open Go
variable [Rho]

/-- No fence; 'r': the round in which the frame is. -/
def FW (r : Option Nat) : Fence := { fn := fun _ => True, depth := none, alive := false, round := r }
theorem FW_none : FW none = Fence.wide := rfl
theorem FW_room (r : Option Nat) (n : Nat) : (FW r).room n := fun _ h => by cases h
theorem fenced_FW (r : Option Nat) (P : Program) (m : Machine) : m.fenced P (FW r) := fun g _ => ⟨(fun h => nomatch h), .inl trivial, fun _ _ => trivial, (fun _ h => nomatch h)⟩
theorem steps_FW {r : Option Nat} {P : Program} {m m' : Machine} (h : Steps P m m') : StepsIn (Machine.fenced P (FW r)) P m m' := (StepsIn.of_steps h).mono fun m _ => fenced_FW r P m
theorem comes_FW {r : Option Nat} {P : Program} {m m' : Machine} {e : Ending} (h : Comes P m m' e) : ComesIn (Machine.fenced P (FW r)) P m m' e := by
  cases e with
  | returned v => exact steps_FW h
  | panicked c => exact steps_FW h
  | outgrown => exact h
theorem calls_FW {r : Option Nat} {n : Nat} {P : Program} {f : FuncId} {args : Array Value} {w : World} {R : Ending → World → Prop} (h : Calls P f args w R) : CallsIn (FW r) n P f args w R :=
  ⟨trivial, fun cs _ => let ⟨e, w', fr, h1, h2, h3⟩ := h cs; ⟨e, w', fr, h1, comes_FW h2, h3⟩⟩
theorem rows_FW {r : Option Nat} {n : Nat} {P : Program} {row : String} {args : Array Value} {w : World} {R : Value → World → Prop} (h : Rows P row args w R) : RowsIn (FW r) n P row args w R :=
  fun c cs _ => let ⟨v, w', h1, h2⟩ := h c cs; ⟨v, w', h1, steps_FW h2⟩
theorem oper_FW {r : Option Nat} {n : Nat} {P : Program} {o : Oper} {a : Act} {w : World} {K : Act → World → Prop} {Q : Exit → Act → World → Prop} (h : o.wp P a w K Q) (hd : ∀ c, o.op ≠ .defer c) : o.wpIn (FW r) n P a w K Q := by
  refine ⟨fun _ _ => trivial, ?_⟩
  rw [Oper.semAt_eq _ _ _ hd]
  unfold Oper.wp at h
  revert h
  generalize (execOp a.eval o).run P w = res
  intro h
  cases res with
  | ok nx w' =>
    cases nx with
    | value v => exact h
    | skip => exact h
    | defer d => exact h
    | enter f args => exact ⟨(fun h => nomatch h), calls_FW h⟩
    | row row args => exact ⟨(fun h => nomatch h), rows_FW h⟩
    | round => exact h.elim
    | recover => exact h.elim
    | _ => exact h.elim
  | halt x w' => cases x <;> exact h
/-- What hands back a value, enters a function puts nothing off. -/
theorem calm_of {P : Program} {o : Oper} {ρ : Operand → Value} {w w' : World} {nxt : Next} (h : (execOp ρ o).run P w = .ok nxt w') (hn : ∀ d, nxt ≠ .defer d) : ∀ c, o.op ≠ .defer c := by
  intro c hc
  simp only [execOp, hc, Sem.run_bind, Sem.run_pure] at h
  cases hr : (resolve ρ c o.type).run P w with
  | ok d w1 => rw [hr] at h; simp only [Result.andThen_ok, Result.ok.injEq] at h; exact hn d h.1.symm
  | halt x w1 => rw [hr] at h; simp [Result.andThen] at h

/-- A block that is nobody's here. -/
structure Apart (hi : Nat) (j : J) (pv : P → Option Nat) (x : Nat) : Prop where
  at_ : ∀ k s c, j k = some (.at x s c) → hi ≤ k.n
  pv : ∀ p, pv p ≠ some x
  mp : ∀ k, j k = some (.mp x) → hi ≤ k.n
theorem Apart.same {hi n : Nat} {j j' : J} {pv pv' : P → Option Nat} {w w' : World} {x : Nat} (A : Apart hi j pv x) (F : Fr hi n j pv w j' pv' w') (hx : x < w.heap.size) : w'.heap[x]? = w.heap[x]? := F.same x hx A.at_ A.pv A.mp
theorem Apart.keep {hi n : Nat} {j j' : J} {pv pv' : P → Option Nat} {w w' : World} {x : Nat} (A : Apart hi j pv x) (F : Fr hi n j pv w j' pv' w') (hx : x < w.heap.size) : Apart hi j' pv' x where
  at_ := fun k s c hk => by
    rcases Nat.lt_or_ge k.n hi with h | h
    · rcases F.new k x s c hk h with ⟨k0, s0, c0, h0, h1⟩ | h0
      · have := A.at_ k0 s0 c0 h0; omega
      · omega
    · exact h
  pv := fun p hp => by
    rcases F.pnew p x hp with h | h
    · exact A.pv p h
    · omega
  mp := fun k hk => by
    rcases Nat.lt_or_ge k.n hi with h | h
    · rcases F.newm k x hk h with ⟨k0, h0, h1⟩ | h0
      · have := A.mp k0 h0; omega
      · omega
    · exact h
/-- Beyond what there is nothing is anybody's. -/
theorem Apart.new {L : P → Prop} {N hi : Nat} {j : J} {pv : P → Option Nat} {e : Env} {nx : P} {h : Hp} {a : Act} {w : World} (R : Rel L N hi j pv e nx h a w) {x : Nat} (hx : w.heap.size ≤ x) : Apart hi j pv x where
  at_ := fun k s c hk => by have := R.lt k x s c hk; omega
  pv := fun p hp => by
    obtain ⟨l, hl⟩ := R.pvv p x hp
    obtain ⟨b', hb', _, hlies, _⟩ := R.env p _ hl
    rw [hp] at hb'; cases hb'
    have := hlies.lt; omega
  mp := fun k hk => by
    obtain ⟨es, n, he⟩ := R.maps.kind k x hk
    have := (Array.getElem?_eq_some_iff.1 he).1; omega
/-- The loop's record of the round in which the frame is lies there, apart. -/
def InRec (r : Option Nat) (hi : Nat) (j : J) (pv : P → Option Nat) (w : World) : Prop := ∀ l, r = some l → (∃ r0, w.heap[l]? = some (.loop r0)) ∧ Apart hi j pv l
theorem InRec.none (hi : Nat) (j : J) (pv : P → Option Nat) (w : World) : InRec none hi j pv w := fun l h => by cases h
theorem InRec.keep {r : Option Nat} {hi n : Nat} {j j' : J} {pv pv' : P → Option Nat} {w w' : World} (I : InRec r hi j pv w) (F : Fr hi n j pv w j' pv' w') : InRec r hi j' pv' w' := fun l hl => by
  obtain ⟨⟨r0, h0⟩, A⟩ := I l hl
  have hx := (Array.getElem?_eq_some_iff.1 h0).1
  exact ⟨⟨r0, (A.same F hx).trans h0⟩, A.keep F hx⟩
/-- The frame's deferred calls: marks of loops over functions, of rounds that have put off nothing. -/
def Dfr (base hi : Nat) (j : J) (pv : P → Option Nat) (w : World) (ds : List Deferred) : Prop :=
  ∃ Ds : List Nat, ds = Ds.map (fun D => { target := .collected D, args := #[] }) ∧ Ds.Nodup ∧ ∀ D ∈ Ds, base ≤ D ∧ w.heap[D]? = some (.deferred (some [])) ∧ Apart hi j pv D
theorem Dfr.nil (base hi : Nat) (j : J) (pv : P → Option Nat) (w : World) : Dfr base hi j pv w [] := ⟨[], rfl, .nil, fun D h => by cases h⟩
theorem Dfr.keep {base hi n : Nat} {j j' : J} {pv pv' : P → Option Nat} {w w' : World} {ds : List Deferred} (I : Dfr base hi j pv w ds) (F : Fr hi n j pv w j' pv' w') : Dfr base hi j' pv' w' ds := by
  obtain ⟨Ds, h1, h2, h3⟩ := I
  refine ⟨Ds, h1, h2, fun D hD => ?_⟩
  obtain ⟨h4, h5, A⟩ := h3 D hD
  have hx := (Array.getElem?_eq_some_iff.1 h5).1
  exact ⟨h4, (A.same F hx).trans h5, A.keep F hx⟩

/-! ### A block that holds no cells is turned -/

def Obj.bare : Obj → Bool | .deferred _ => true | .loop _ => true | _ => false
theorem cell_bare {w : World} {x : Nat} {o : Obj} (hx : w.heap[x]? = some o) (ho : Obj.bare o = true) (ad : Addr) (had : ad.block = x) : w.cell? ad = none := by
  unfold World.cell?
  rw [had, hx]
  cases o <;> simp [Obj.bare] at ho <;> rfl
theorem frozen_bare {w : World} {x : Nat} {o : Obj} (hx : w.heap[x]? = some o) (ho : Obj.bare o = true) (ad : Addr) (had : ad.block = x) : w.frozen? ad = false := by
  unfold World.frozen?
  rw [had, hx]
  cases o <;> simp [Obj.bare] at ho <;> rfl
theorem put_other {w : World} {x y : Nat} {o : Obj} (h : y ≠ x) : (w.putObj x o).heap[y]? = w.heap[y]? := World.putObj_heap_other h
theorem put_size (w : World) (x : Nat) (o : Obj) : (w.putObj x o).heap.size = w.heap.size := by simp [World.putObj]
theorem put_cell {w : World} {x : Nat} {o o' : Obj} (hx : w.heap[x]? = some o) (ho : Obj.bare o = true) (ho' : Obj.bare o' = true) (ad : Addr) : (w.putObj x o').cell? ad = w.cell? ad := by
  by_cases h : ad.block = x
  · rw [cell_bare hx ho ad h, cell_bare (World.putObj_heap_same (Array.getElem?_eq_some_iff.1 hx).1) ho' ad h]
  · unfold World.cell?; rw [put_other h]
theorem put_frozen {w : World} {x : Nat} {o o' : Obj} (hx : w.heap[x]? = some o) (ho : Obj.bare o = true) (ho' : Obj.bare o' = true) (ad : Addr) : (w.putObj x o').frozen? ad = w.frozen? ad := by
  by_cases h : ad.block = x
  · rw [frozen_bare hx ho ad h, frozen_bare (World.putObj_heap_same (Array.getElem?_eq_some_iff.1 hx).1) ho' ad h]
  · unfold World.frozen?; rw [put_other h]
theorem Lies.put {w : World} {x b s c : Nat} {o o' : Obj} (hx : w.heap[x]? = some o) (ho : Obj.bare o = true) (ho' : Obj.bare o' = true) (H : Lies w b s c) : Lies (w.putObj x o') b s c :=
  ⟨by rw [put_size]; exact H.lt, fun i hi => by rw [put_cell hx ho ho']; exact H.cell i hi, fun i h1 h2 => by rw [put_frozen hx ho ho']; exact H.free i h1 h2⟩
theorem CellsAt.put {j : J} {w : World} {x b s : Nat} {l : List DV} {o o' : Obj} (hx : w.heap[x]? = some o) (ho : Obj.bare o = true) (ho' : Obj.bare o' = true) (H : CellsAt j w b s l) : CellsAt j (w.putObj x o') b s l :=
  fun i v hv => let ⟨v', a, r, c⟩ := H i v hv; ⟨v', by rw [put_cell hx ho ho']; exact a, r, c⟩
theorem map_put {w : World} {x r n : Nat} {o o' : Obj} {es : Array MapEntry} (hx : w.heap[x]? = some o) (ho : Obj.bare o = true) (hr : w.heap[r]? = some (.map es n)) : (w.putObj x o').heap[r]? = some (.map es n) := by
  rw [put_other (by rintro rfl; rw [hx] at hr; cases hr; cases ho)]; exact hr
theorem Rel.putObj {L : P → Prop} {N hi : Nat} {j : J} {pv : P → Option Nat} {e : Env} {nx : P} {h : Hp} {a : Act} {w : World} (R : Rel L N hi j pv e nx h a w) {x : Nat} {o : Obj} (o' : Obj) (hx : w.heap[x]? = some o) (ho : Obj.bare o = true) (ho' : Obj.bare o' = true) : Rel L N hi j pv e nx h a (w.putObj x o') where
  fresh := R.fresh
  heap := fun k i hk hlt => by
    have H := R.heap k i hk hlt
    cases i with
    | dead => exact H
    | «at» b s c => obtain ⟨h1, l, h2, h3, h4⟩ := H; exact ⟨h1.put hx ho ho', l, h2, h3, h4.put hx ho ho'⟩
    | ro b s => obtain ⟨l, h2, h3, h4⟩ := H; exact ⟨l, h2, by rw [put_size]; exact h3, h4.put hx ho ho'⟩
    | mp r => obtain ⟨l, es, n, h2, h3, h4⟩ := H; exact ⟨l, es, n, h2, map_put hx ho h3, h4⟩
  inj := R.inj
  inr := R.inr
  env := fun p v hv => by
    have H := R.env p v hv
    cases v
    case var l => obtain ⟨b, h1, h2, h3, h4⟩ := H; exact ⟨b, h1, h2, h3.put hx ho ho', h4.put hx ho ho'⟩
    all_goals exact H
  pvv := R.pvv
  pin := R.pin
  pfr := R.pfr
  pfo := R.pfo
  loc := R.loc
  size := R.size
  lt := fun k b s c hk => by rw [put_size]; exact R.lt k b s c hk
  lr := fun k b s hk => by rw [put_size]; exact R.lr k b s hk
  top := R.top
  maps := ⟨R.maps.glo, R.maps.dis, R.maps.dir, R.maps.inj, fun k r hk => by obtain ⟨es, n, he⟩ := R.maps.kind k r hk; exact ⟨es, n, map_put hx ho he⟩⟩
  pfm := R.pfm
/-- A block beyond 'w' is turned. -/
theorem Fr.putObj {hi n : Nat} {j j' : J} {pv pv' : P → Option Nat} {w w' : World} (F : Fr hi n j pv w j' pv' w') {x : Nat} {o : Obj} (o' : Obj) (hx : w'.heap[x]? = some o) (ho : Obj.bare o = true) (ho' : Obj.bare o' = true) (hb : w.heap.size ≤ x) : Fr hi n j pv w j' pv' (w'.putObj x o') :=
  { F with
    size := by rw [put_size]; exact F.size
    os := F.os
    output := F.output
    same := fun y hy h1 h2 h3 => by rw [put_other (by omega)]; exact F.same y hy h1 h2 h3
    froz := fun ad hl => by rw [put_frozen hx ho ho']; exact F.froz ad hl }
end Go.Proofs.YtnoekfkfinjfgaaGreatDoor.Dx

set_option autoImplicit false
set_option linter.unusedSectionVars false
set_option linter.unusedSimpArgs false
noncomputable section
namespace Go.Proofs.YtnoekfkfinjfgaaGreatDoor.Dx
open Go
variable [Rho]

/-- A step of an operation, beside Go's, calls too. -/
def OpOk (Pr : Program) (o : Oper) (e : Env) (nx : P) (h : Hp) (e' : Env) (v : DV) (nx' : P) (h' : Hp) : Prop :=
  ∀ (L : P → Prop) (N hi : Nat) (j : J) (pv : P → Option Nat) (a : Act) (w : World), Rel L N hi j pv e nx h a w → nx'.n ≤ hi → ∀ (K : Act → World → Prop) (Q : Exit → Act → World → Prop),
    (∀ j' w' v', Rel L N hi j' pv e' nx' h' a w' → Fr hi nx.n j pv w j' pv w' → XD j' pv v v' → K (a.put o.dst v') w') → ∀ r, o.wpIn (FW r) 0 Pr a w K Q
theorem MemOk.op {Pr : Program} {o : Oper} {e : Env} {nx : P} {h : Hp} {e' : Env} {v : DV} {nx' : P} {h' : Hp} (H : MemOk Pr o e nx h e' v nx' h') : OpOk Pr o e nx h e' v nx' h' := by
  intro L N hi j pv a w R hnh K Q hK r
  obtain ⟨j', w', nxt, v', hrun, hn, R', F', hx⟩ := H L N hi j pv a w R hnh
  refine oper_FW ?_ (calm_of hrun (by rcases hn with rfl | ⟨rfl, _⟩ <;> (intro d h; cases h)))
  unfold Oper.wp
  rw [hrun]
  rcases hn with rfl | ⟨rfl, rfl⟩
  · exact hK j' w' v' R' F' hx
  · exact hK j' w' undef R' F' hx

/-- What a step does to the small machine's own state. -/
structure Moves (wm : Option P) (e : Env) (nx : P) (h : Hp) (e' : Env) (nx' : P) (h' : Hp) : Prop where
  le : nx.n ≤ nx'.n
  env : ∀ p, Tr.get? p e' = Tr.get? p e ∨ ∃ l l', Tr.get? p e = some (.var l) ∧ Tr.get? p e' = some (.var l') ∧ l'.length = l.length
  old : ∀ m, wm = some m → m.n ≤ nx.n → ∀ k : P, k.n < m.n → Tr.get? k h' = Tr.get? k h
  top : (∀ k : P, nx.n ≤ k.n → Tr.get? k h = none) → ∀ k : P, nx'.n ≤ k.n → Tr.get? k h' = none
theorem Moves.same (wm : Option P) (e : Env) (nx : P) (h : Hp) : Moves wm e nx h e nx h := ⟨Nat.le_refl _, fun _ => .inl rfl, fun _ _ _ _ _ => rfl, fun h => h⟩
theorem Moves.new {wm : Option P} {e : Env} {nx : P} {h : Hp} {x : Option Ob} : Moves wm e nx h e nx.suc (Tr.set nx h x) :=
  ⟨by rw [P.n_suc]; omega, fun _ => .inl rfl, fun m _ hm k hk => Tr.get_set_ne (by rintro rfl; omega) _ _, fun ht k hk => by
    rw [P.n_suc] at hk; rw [Tr.get_set_ne (by rintro rfl; omega)]; exact ht k (by omega)⟩
theorem Moves.put {wm : Option P} {e : Env} {nx : P} {h : Hp} {b : P} {x : Option Ob} {y : Ob} (hb : may wm b) (hg : Tr.get? b h = some y) : Moves wm e nx h e nx (Tr.set b h x) :=
  ⟨Nat.le_refl _, fun _ => .inl rfl, fun m hm _ k hk => Tr.get_set_ne (by rintro rfl; have := hb m hm; omega) _ _, fun ht k hk => by
    have := ht k hk
    rw [Tr.get_set_ne (by rintro rfl; rw [hg] at this; cases this)]; exact this⟩
theorem Moves.put_new {wm : Option P} {e : Env} {nx : P} {h : Hp} {b : P} {x y : Option Ob} {z : Ob} (hb : may wm b) (hg : Tr.get? b h = some z) : Moves wm e nx h e nx.suc (Tr.set nx (Tr.set b h x) y) :=
  ⟨by rw [P.n_suc]; omega, fun _ => .inl rfl, fun m hm hmn k hk => by
    rw [Tr.get_set_ne (by rintro rfl; omega), Tr.get_set_ne (by rintro rfl; have := hb m hm; omega)], fun ht k hk => by
    rw [P.n_suc] at hk
    have := ht k (by omega)
    rw [Tr.get_set_ne (by rintro rfl; omega), Tr.get_set_ne (by rintro rfl; rw [hg] at this; cases this)]; exact this⟩
theorem Moves.trans {wm : Option P} {e e' e'' : Env} {nx nx' nx'' : P} {h h' h'' : Hp} (m1 : Moves wm e nx h e' nx' h') (m2 : Moves wm e' nx' h' e'' nx'' h'') : Moves wm e nx h e'' nx'' h'' :=
  ⟨Nat.le_trans m1.le m2.le, fun p => by
      rcases m2.env p with h2 | ⟨l, l', h2, h3, h4⟩
      · rw [h2]; exact m1.env p
      · rcases m1.env p with h1 | ⟨l0, l1, h5, h6, h7⟩
        · exact .inr ⟨l, l', by rw [← h1]; exact h2, h3, h4⟩
        · rw [h6] at h2; cases h2; exact .inr ⟨_, _, h5, h3, by omega⟩,
    fun m hm hmn k hk => by rw [m2.old m hm (Nat.le_trans hmn m1.le) k hk, m1.old m hm hmn k hk], fun ht => m2.top (m1.top ht)⟩

def chkCall2 (c : Call) (b : Builtin) (f : Operand → Operand → Nat → Nat → Bool) : Bool :=
  match c with
  | ⟨.builtin b', ⟨[x, y]⟩, ⟨[t, t']⟩⟩ => decide (b' = b) && f x y t t'
  | _ => false
def chkCall1 (c : Call) (b : Builtin) (f : Operand → Nat → Bool) : Bool :=
  match c with
  | ⟨.builtin b', ⟨[x]⟩, ⟨[t]⟩⟩ => decide (b' = b) && f x t
  | _ => false
def chkMem (Pr : Program) (i : Ins) (op : Go.Op) : Bool :=
  match i, op with
  | .al z, .alloc t => match Pr.info? t with
    | some it => match it.zero with
      | some zv => okCs z zv.cells.toList
      | none => false
    | none => false
  | .bx d, .box _ x => chkOpd d x
  | .bsl len sz z ps, .buildSlice t n qs => chkBsl Pr len sz z ps t n qs.toList || chkBsl0 Pr len sz z ps t n qs.toList
  | .ld d, .load t x => chkOpd d x && aggIs Pr t false
  | .lda n d, .load t x => chkOpd d x && aggIs Pr t true && sizeIs Pr t n
  | .vla n d, .load t x => chkOpd d x && aggIs Pr t (!Nat.beq n 0) && (Nat.beq n 0 || sizeIs Pr t n)
  | .st n d v, .store t x y => chkOpd d x && chkOpd v y && sizeIs Pr t n
  | .msl sz bt z l c, .makeSlice t x y => chkOpd l x && chkOpd c y && chkMsl Pr sz bt z t
  | .app sz bt s x, .call c => chkCall2 c .append fun y y' t t' => chkOpd s y && chkOpd x y' && chkApp Pr sz bt t t'
  | .mm m ds, op => chkMx Pr m ds op
  | .clr _ z d, .call c => chkCall1 c .clear fun x t => chkOpd d x && chkClr Pr z t
  | .apz sz bt z s n, .call c => chkCall2 c .append fun y y' t t' => chkOpd s y && chkOpd n y' && chkApz Pr sz bt z t t'
  | _, _ => false
theorem chkCall2_spec {c : Call} {b : Builtin} {f : Operand → Operand → Nat → Nat → Bool} (h : chkCall2 c b f = true) : ∃ x y t t', c = ⟨.builtin b, #[x, y], #[t, t']⟩ ∧ f x y t t' = true := by
  unfold chkCall2 at h
  split at h
  · rename_i b' x y t t'
    simp only [Bool.and_eq_true, decide_eq_true_eq] at h
    exact ⟨x, y, t, t', by rw [h.1], h.2⟩
  · cases h

theorem chkCall1_spec {c : Call} {b : Builtin} {f : Operand → Nat → Bool} (h : chkCall1 c b f = true) : ∃ x t, c = ⟨.builtin b, #[x], #[t]⟩ ∧ f x t = true := by
  unfold chkCall1 at h
  split at h
  · rename_i b' x t
    simp only [Bool.and_eq_true, decide_eq_true_eq] at h
    exact ⟨x, t, by rw [h.1], h.2⟩
  · cases h

section
variable {Pr : Program} {F : Tr Fd} {ih : Ih} {wm : Option P} {e : Env} {nx : P} {h : Hp} {k : Kv} {out : Out} {eo : Env} {no : P} {ho : Hp} {o : Oper}

/-- A step that was made. -/
def Step (Pr : Program) (o : Oper) (wm : Option P) (e : Env) (nx : P) (h : Hp) (k : Kv) (r : Res) : Prop :=
  ∃ e' v nx' h', k e' v nx' h' = r ∧ OpOk Pr o e nx h e' v nx' h' ∧ Moves wm e nx h e' nx' h'

theorem mem_app {sz bt : Nat} {s x : Opd} (H : insK (.app sz bt s x) F ih wm e nx h k = .ok out eo no ho) (hc : chkMem Pr (.app sz bt s x) o.op = true) : Step Pr o wm e nx h k (.ok out eo no ho) := by
  cases hop : o.op <;> simp only [chkMem, hop, Bool.false_eq_true] at hc
  rename_i c
  obtain ⟨y, y', t, t', rfl, hf⟩ := chkCall2_spec hc
  simp only [Bool.and_eq_true] at hf
  obtain ⟨⟨hs, hx⟩, hA⟩ := hf
  obtain ⟨el, it, zv, A⟩ := chkApp_spec hA
  change asSl (ev x e) (nilsK (ev x e) .fail fun _ => apX sz bt (ev s e) e nx h k wm (nat_lit 0) []) (fun b o n _ s2 => chk (Nat.beq s2 sz) fun _ => slcK h b o n sz fun new => apX sz bt (ev s e) e nx h k wm n new) = _ at H
  rw [asSl_eq, nilsK_eq] at H
  -- nothing behind
  have zero : ∀ new, apX sz bt (ev s e) e nx h k wm 0 new = .ok out eo no ho → ((ev x e = .nils) ∨ ∃ b o c, ev x e = .sl b o 0 c sz ∧ slcV h b o 0 sz = some []) → Step Pr o wm e nx h k (.ok out eo no ho) := by
    intro new H' hxv
    change asSl (ev s e) (nilsK (ev s e) .fail fun _ => fV (ev s e) fun v => k e v nx h) (fun _ _ _ _ _ => fV (ev s e) fun v => k e v nx h) = _ at H'
    rw [asSl_eq, nilsK_eq] at H'
    have key : ∀ v, ev s e = v → ((ev s e = .nils) ∨ ∃ b o n c s', ev s e = .sl b o n c s') → fV v (fun v => k e v nx h) = .ok out eo no ho → Step Pr o wm e nx h k (.ok out eo no ho) := by
      intro v hv hsv H''
      rw [fV_eq, ← hv] at H''
      exact ⟨e, ev s e, nx, h, H'', (memOk_app0 hop hs hx A hsv hxv).op, Moves.same _ _ _ _⟩
    cases hse : ev s e <;> simp only [hse, reduceCtorEq] at H'
    case nils => exact key _ hse (.inl hse) H'
    case sl => exact key _ hse (.inr ⟨_, _, _, _, _, hse⟩) H'
  cases hxe : ev x e <;> simp only [hxe, reduceCtorEq] at H
  case nils => exact zero _ H (.inl hxe)
  case sl b2 o2 m c2 s2 =>
    rw [chk_eq, beq_if] at H
    by_cases h1 : s2 = sz
    case neg => rw [if_neg h1] at H; cases H
    rw [if_pos h1] at H
    subst h1
    rw [slcK_eq] at H
    cases hnew : slcV h b2 o2 m s2 with
    | none => simp only [hnew, reduceCtorEq] at H
    | some new =>
      simp only [hnew] at H
      rcases Nat.eq_zero_or_pos m with hm | hm
      · subst hm
        refine zero _ H (.inr ⟨_, _, _, hxe, ?_⟩)
        have hl : new = [] := by
          unfold slcV at hnew
          cases hal : alive b2 h with
          | none => simp [hal] at hnew
          | some l =>
            simp only [hal] at hnew
            split at hnew
            · simp at hnew; exact hnew
            · cases hnew
        rw [hnew, hl]
      · have hmb : Nat.beq m 0 = false := by cases m with
          | zero => omega
          | succ m => rfl
        unfold apX at H
        rw [show (nat_lit 0) = 0 from rfl, hmb] at H
        change asSl (ev s e) (nilsK (ev s e) .fail fun _ => chk (Nat.ble (Nat.mul m bt) (nat_lit 35184372088832)) fun _ => apNew s2 (nat_lit 0) m [] new e nx h k) (apSl s2 bt e nx h k wm m new) = _ at H
        rw [asSl_eq, nilsK_eq] at H
        have apn : ∀ (n : Nat) (old : List DV) (h : Hp), apNew s2 n m old new e nx h k = k e (.sl nx 0 (n + m) none s2) nx.suc (Tr.set nx h (some (.cells (old ++ new)))) := by
          intro n old h
          unfold apNew
          rw [catK_eq, forceN_eq, newK_eq]; rfl
        cases hse : ev s e <;> simp only [hse, reduceCtorEq] at H
        case nils =>
          rw [chk_eq, ble_if] at H
          change (if m * bt ≤ 35184372088832 then _ else _) = _ at H
          by_cases h2 : m * bt ≤ 35184372088832
          case neg => rw [if_neg h2] at H; cases H
          rw [if_pos h2, apn] at H
          exact ⟨_, _, _, _, H, (memOk_appNew hop hs hx A (old := []) (n := 0) (.inl ⟨hse, rfl, rfl, hm⟩) hxe hnew (by rw [Nat.zero_add]; exact h2)).op, Moves.new⟩
        case sl b o1 n cp s3 =>
          unfold apSl at H
          rw [chk_eq, beq_if] at H
          by_cases h3 : s3 = s2
          case neg => rw [if_neg h3] at H; cases H
          rw [if_pos h3, chk_eq, ble_if] at H
          subst h3
          change (if (n + m) * bt ≤ 35184372088832 then _ else _) = _ at H
          by_cases h4 : (n + m) * bt ≤ 35184372088832
          case neg => rw [if_neg h4] at H; cases H
          rw [if_pos h4] at H
          cases cp with
          | none =>
            change wOk wm b .fail (fun _ => ownK b h .fail fun l => dropK o1 l .fail fun t => takeK (n * s3) t .fail fun old => Tr.setK b h (some .dead) fun h => apNew s3 n m old new e nx h k) = _ at H
            rw [wOk_eq] at H
            by_cases h5 : may wm b
            case neg => rw [if_neg h5] at H; cases H
            rw [if_pos h5, ownK_eq] at H
            cases hg : Tr.get? b h with
            | none => simp only [hg, reduceCtorEq] at H
            | some ob =>
              cases ob <;> simp only [hg, reduceCtorEq] at H
              rename_i l
              rw [dropK_eq] at H
              by_cases h6 : o1 ≤ l.length
              case neg => rw [if_neg h6] at H; cases H
              rw [if_pos h6, takeK_eq] at H
              by_cases h7 : n * s3 ≤ (l.drop o1).length
              case neg => rw [if_neg h7] at H; cases H
              rw [if_pos h7, Tr.setK_eq, apn] at H
              exact ⟨_, _, _, _, H, (memOk_appKill hop hs hx A hse hg h6 h7 hm hxe hnew h4).op, Moves.put_new h5 hg⟩
          | some c =>
            change (Bool.rec (motive := fun _ => Res) (slcK h b o1 n s3 fun old => apNew s3 n m old new e nx h k) (apIn s3 e nx h k wm b o1 n c m new) (Nat.ble (n + m) c)) = _ at H
            rw [brec_if, ble_if] at H
            by_cases h5 : n + m ≤ c
            · rw [if_pos h5] at H
              unfold apIn at H
              rw [wOk_eq] at H
              by_cases h6 : may wm b
              case neg => rw [if_neg h6] at H; cases H
              rw [if_pos h6, ownK_eq] at H
              cases hg : Tr.get? b h with
              | none => simp only [hg, reduceCtorEq] at H
              | some ob =>
                cases ob <;> simp only [hg, reduceCtorEq] at H
                rename_i l
                change sprK (o1 + n * s3) l new .fail (fun l => Tr.setK b h (some (.cells l)) fun h => forceN (n + m) fun n => k e (.sl b o1 n (some c) s3) nx h) = _ at H
                rw [sprK_eq] at H
                by_cases h7 : o1 + n * s3 + new.length ≤ l.length
                case neg => rw [if_neg h7] at H; cases H
                rw [if_pos h7, Tr.setK_eq, forceN_eq] at H
                exact ⟨_, _, _, _, H, (memOk_appIn hop hs hx A hse hg hm h5 h7 hxe hnew).op, Moves.put h6 hg⟩
            · rw [if_neg h5, slcK_eq] at H
              cases hold : slcV h b o1 n s3 with
              | none => simp only [hold, reduceCtorEq] at H
              | some old =>
                simp only [hold, apn] at H
                exact ⟨_, _, _, _, H, (memOk_appNew hop hs hx A (.inr ⟨_, _, _, hse, hold, by omega⟩) hxe hnew h4).op, Moves.new⟩

end
end Go.Proofs.YtnoekfkfinjfgaaGreatDoor.Dx
