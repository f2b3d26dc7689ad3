/- The small machine's instructions that touch no memory do what Go's operations do. No statement of this seat is proved here. -/
import Derived.Test.YthdlkpmhjbaplaaDxS
import Derived.Great.BuildSlice
import Derived.WalkSpells
import Derived.Laws.StructEq
import Derived.Shelf.Abstract
set_option autoImplicit false
set_option linter.unusedSimpArgs false
set_option linter.unusedVariables false
noncomputable section
namespace Go.Proofs.Ythdlkpmhjbaplaa.Dx
open Go

def sizeIs (P : Program) (t n : Nat) : Bool := match P.info? t with | some i => Nat.beq i.size n | none => false
theorem sizeIs_spec {P : Program} {t n : Nat} (h : sizeIs P t n = true) : ∃ i, P.info? t = some i ∧ i.size = n := by
  unfold sizeIs at h
  cases hi : P.info? t with
  | none => simp [hi] at h
  | some i => simp only [hi, Nat.beq_eq] at h; exact ⟨i, rfl, h⟩
def aggIs (P : Program) (t : Nat) (b : Bool) : Bool := match P.underlying t with
  | some (.struct _) => b
  | some (.array _ _) => b
  | some _ => !b
  | none => false
theorem aggIs_spec {P : Program} {t : Nat} {b : Bool} (h : aggIs P t b = true) (w : World) : (isAgg t).run P w = .ok b w := by
  unfold aggIs at h
  cases hu : P.underlying t with
  | none => simp [hu] at h
  | some d =>
    unfold isAgg
    rw [Sem.run_bind, run_underlying hu]
    cases d <;> simp [hu] at h <;> subst h <;> rfl

/-! ### laying parts over -/

theorem get_foldl_set (off : Nat) : ∀ (l : List Value) (k : Nat) (cells : Array Value) (i : Nat),
    ((l.zipIdx k).foldl (fun cs x => cs.setIfInBounds (off + x.2) x.1) cells)[i]? = if off + k ≤ i ∧ i < off + k + l.length ∧ i < cells.size then l[i - off - k]? else cells[i]?
  | [], k, cells, i => by simp; intro h1 h2; omega
  | v :: l, k, cells, i => by
    simp only [List.zipIdx_cons, List.foldl_cons]
    rw [get_foldl_set off l (k + 1)]
    simp only [Array.size_setIfInBounds, List.length_cons, Array.getElem?_setIfInBounds]
    by_cases h1 : off + (k + 1) ≤ i ∧ i < off + (k + 1) + l.length ∧ i < cells.size
    · rw [if_pos h1, if_pos (by omega), show i - off - k = (i - off - (k + 1)) + 1 by omega]; rfl
    · rw [if_neg h1]
      by_cases h2 : off + k = i
      · subst h2
        by_cases h3 : off + k < cells.size
        · rw [if_pos rfl, if_pos h3, if_pos ⟨Nat.le_refl _, by omega, h3⟩, show off + k - off - k = 0 by omega]; rfl
        · rw [if_pos rfl, if_neg h3, if_neg (fun h => h3 h.2.2), Array.getElem?_eq_none (by omega)]
      · rw [if_neg h2, if_neg (by omega)]
theorem size_foldl_set (off : Nat) : ∀ (l : List (Value × Nat)) (cells : Array Value), (l.foldl (fun cs x => cs.setIfInBounds (off + x.2) x.1) cells).size = cells.size
  | [], _ => rfl
  | x :: l, cells => by simp only [List.foldl_cons]; rw [size_foldl_set off l]; simp

def chkParts (place : Nat → Option (Nat × Nat)) : List (Nat × Nat × Opd) → List (Nat × Operand) → Bool
  | [], [] => true
  | (off, sz, d) :: ps, (i, x) :: qs => (match place i with | some (o, s) => Nat.beq o off && Nat.beq s sz | none => false) && chkOpd d x && chkParts place ps qs
  | _, _ => false

theorem fill_sim {j : J} {pv : P → Option Nat} {e : Env} {ρ : Operand → Value} (hr : Reads j pv e ρ) (place : Nat → Option (Nat × Nat)) :
    ∀ (ps : List (Nat × Nat × Opd)) (qs : List (Nat × Operand)) (z z' : List DV) (cells : Array Value), chkParts place ps qs = true → VRs j z cells.toList → fills e ps z = some z' →
      ∃ cells', Instr.fill place cells (qs.map fun q => (q.1, ρ q.2)) = some cells' ∧ VRs j z' cells'.toList
  | [], [], z, z', cells, _, hz, hf => by simp only [fills, Option.some.injEq] at hf; subst hf; exact ⟨cells, rfl, hz⟩
  | [], _ :: _, _, _, _, hc, _, _ => by simp [chkParts] at hc
  | _ :: _, [], _, _, _, hc, _, _ => by simp [chkParts] at hc
  | (off, sz, d) :: ps, (i, x) :: qs, z, z', cells, hc, hz, hf => by
    simp only [chkParts, Bool.and_eq_true] at hc
    obtain ⟨⟨hp, hd⟩, hrest⟩ := hc
    simp only [fills] at hf
    cases hl : (ov d e).cells with
    | none => simp [hl] at hf
    | some l =>
      simp only [hl] at hf
      by_cases hcond : l.length = sz ∧ off + l.length ≤ z.length
      case neg => simp [if_neg hcond] at hf
      rw [if_pos hcond] at hf
      have hv := (hr.ov hd).cells hl
      cases hpl : place i with
      | none => simp [hpl] at hp
      | some q =>
        obtain ⟨o, s⟩ := q
        simp only [hpl, Bool.and_eq_true, Nat.beq_eq] at hp
        obtain ⟨rfl, rfl⟩ := hp
        have hlen := hv.length
        have hzl := hz.length
        simp only [Array.length_toList] at hlen hzl
        have hnew : VRs j (z.take o ++ l ++ z.drop (o + l.length)) (((ρ x).cells.zipIdx.foldl (fun cs (c, j) => cs.setIfInBounds (o + j) c) cells)).toList := by
          have hfold : ((ρ x).cells.zipIdx.foldl (fun cs (c, j) => cs.setIfInBounds (o + j) c) cells) = ((ρ x).cells.toList.zipIdx 0).foldl (fun cs x => cs.setIfInBounds (o + x.2) x.1) cells := by
            rw [← Array.foldl_toList, Array.toList_zipIdx]
          refine VRs.of_get ?_ ?_
          · rw [hfold]
            show _ = Array.size _
            rw [size_foldl_set]; simp; omega
          · intro i v hi
            rw [hfold, Array.getElem?_toList, get_foldl_set]
            simp only [Nat.add_zero, Nat.sub_zero, Array.length_toList]
            by_cases h1 : i < o
            · rw [if_neg (by omega)]
              rw [List.getElem?_append_left (by simp; omega), List.getElem?_append_left (by simp; omega), List.getElem?_take] at hi
              rw [if_pos h1] at hi
              obtain ⟨v', hv', hh⟩ := hz.get i v hi
              exact ⟨v', by simpa using hv', hh⟩
            · by_cases h2 : i < o + l.length
              · rw [if_pos (by omega)]
                rw [List.getElem?_append_left (by simp; omega), List.getElem?_append_right (by simp; omega)] at hi
                simp only [List.length_take, show min o z.length = o by omega] at hi
                exact hv.get _ v hi
              · rw [if_neg (by omega)]
                rw [List.getElem?_append_right (by simp; omega)] at hi
                simp only [List.length_append, List.length_take, show min o z.length = o by omega, List.getElem?_drop] at hi
                rw [show o + l.length + (i - (o + l.length)) = i by omega] at hi
                obtain ⟨v', hv', hh⟩ := hz.get i v hi
                exact ⟨v', by simpa using hv', hh⟩
        obtain ⟨c', hc', hr'⟩ := fill_sim hr place ps qs _ z' _ hrest hnew hf
        refine ⟨c', ?_, hr'⟩
        simp only [List.map_cons, Instr.fill, hpl]
        rw [if_neg (by simp only [Bool.or_eq_true, decide_eq_true_eq, not_or]; omega)]
        exact hc'


/-! ### The operations -/

def kindOf (P : Program) (t : Nat) (k : IntKind) : Bool := match P.underlying t with | some (.int j) => sameK j k | _ => false
def boOf : Bo → BinOp
  | .add => .add | .sub => .sub | .mul => .mul | .quo => .quo | .rem => .rem | .eq => .eql | .ne => .neq | .lt => .lss | .le => .leq | .gt => .gtr | .ge => .geq
def sameBo : Bo → BinOp → Bool
  | .add, .add | .sub, .sub | .mul, .mul | .quo, .quo | .rem, .rem | .eq, .eql | .ne, .neq | .lt, .lss | .le, .leq | .gt, .gtr | .ge, .geq => true
  | _, _ => false
theorem sameBo_eq {b : Bo} {o : BinOp} (h : sameBo b o = true) : o = boOf b := by cases b <;> cases o <;> first | rfl | (simp [sameBo] at h)
def chkOO : Option Opd → Option Operand → Bool
  | none, none => true
  | some d, some x => chkOpd d x
  | _, _ => false
def flat1 (P : Program) (t : Nat) (k : Bool) : Bool := match P.underlying t, k with | some .bool, true => true | some (.int _), false => true | _, _ => false
def flatFields (P : Program) : List Field → Nat → List Bool → Bool
  | [], _, [] => true
  | f :: fs, n, k :: ks => !(f.name == "_") && Nat.beq f.offset n && flat1 P f.type k && flatFields P fs (n + 1) ks
  | _, _, _ => false
/-- a struct of such numbers and bools, each with a name; a bool -/
def flatType (P : Program) (t : Nat) (ks : List Bool) : Bool := match P.underlying t, ks with
  | some (.struct fs), ks => flatFields P fs.toList 0 ks && !P.stoodInHeld t && !P.eqGuardType P.depth t
  | _, _ => false
def placesOf (P : Program) (fs : Array Field) : Option (List (Nat × Nat)) := fs.toList.mapM fun f => (P.info? f.type).map fun i => (f.offset, i.size)
def chkBld (P : Program) (z : List DV) (ps : List (Nat × Nat × Opd)) (t : Nat) (qs : List (Nat × Operand)) : Bool :=
  match P.info? t, P.underlying t with
  | some it, some (.struct fs) => match it.zero, placesOf P fs with
    | some zv, some places => okCs z zv.cells.toList && chkParts (places.toArray[·]?) ps qs
    | _, _ => false
  | some it, some (.array _ e) => match it.zero, P.info? e with
    | some zv, some ie => okCs z zv.cells.toList && chkParts (fun i => some (i * ie.size, ie.size)) ps qs
    | _, _ => false
  | _, _ => false
def chkField (P : Program) (s f o : Nat) (n : Option Nat) : Bool :=
  match P.underlying s with
  | some (.struct fs) => match fs[f]? with
    | some fd => Nat.beq fd.offset o && (match P.info? fd.type with | some i => !Nat.beq i.size 0 && (match n with | none => true | some m => Nat.beq i.size m) | none => false) && aggIs P fd.type n.isSome
    | none => false
  | _ => false
def chkFieldA (P : Program) (s f o : Nat) : Bool :=
  match P.underlying s with
  | some (.struct fs) => match fs[f]? with
    | some fd => Nat.beq fd.offset o && (match P.info? fd.type with | some i => !Nat.beq i.size 0 | none => false)
    | none => false
  | _ => false
def sliceIs (P : Program) (t sz : Nat) : Bool := match P.underlying t with | some (.slice e) => sizeIs P e sz && !Nat.beq sz 0 | _ => false
def isSlice (P : Program) (t : Nat) : Bool := match P.underlying t with | some (.slice _) => true | _ => false
def isNilC : Operand → Bool
  | .const (.slice none _ _) => true
  | _ => false

/-- Is this instruction, which touches no memory, that operation? -/
def chkPure (P : Program) (i : Ins) (o : Go.Op) : Bool :=
  match i, o with
  | .mv d, .move x | .mv d, .assign x => chkOpd d x
  | .pick c a b, .pick x y z => chkOpd c x && chkOpd a y && chkOpd b z
  | .bld z ps, .build t qs => chkBld P z ps t qs.toList
  | .nc d, .nilCheck x => chkOpd d x
  | .bin b d d', .binOp op t x y _ => sameBo b op && chkOpd d x && chkOpd d' y && (match P.underlying t with | some (.int _) => true | _ => false)
  | .neg d, .unOp .neg _ x => chkOpd d x
  | .shr d d', .binOp .shr t x y _ => chkOpd d x && chkOpd d' y && (match P.underlying t with | some (.int _) => true | _ => false)
  | .not d, .unOp .not _ x => chkOpd d x
  | .cv k d, .convert s t x => chkOpd d x && kindOf P t k && (match P.underlying s with | some (.int _) => true | _ => false)
  | .mfn f cs, .makeFunc (.func g) ⟨[]⟩ xs => Nat.beq f.n g && chkOpds cs xs.toList
  | .fa n d, .fieldAddr s x f => chkOpd d x && chkFieldA P s f n
  | .fi n d, .field s x f => chkOpd d x && chkField P s f n none
  | .fia n m d, .field s x f => chkOpd d x && chkField P s f n (some m)
  | .ia sz d d', .indexAddr t x y => chkOpd d x && chkOpd d' y && sliceIs P t sz
  | .sla sz d lo hi mx, .slice t x l h m => chkOpd d x && chkOO lo l && chkOO hi h && chkOO mx m && sliceIs P t sz && (mx.isNone || hi.isSome)
  | .ex d n, .extract x m => chkOpd d x && Nat.beq n m
  | .len d, .call ⟨.builtin .len, ⟨[x]⟩, ⟨[t]⟩⟩ => chkOpd d x && isSlice P t
  | .cap d, .call ⟨.builtin .cap, ⟨[x]⟩, ⟨[t]⟩⟩ => chkOpd d x && isSlice P t
  | .mx d l, .call ⟨.builtin .max, ⟨x :: xs⟩, _⟩ => chkOpd d x && chkOpds l xs
  | .mn d l, .call ⟨.builtin .min, ⟨x :: xs⟩, _⟩ => chkOpd d x && chkOpds l xs
  | .aeq ks neg d d', .binOp op t x y _ => (match neg, op with | false, .eql => true | true, .neq => true | _, _ => false) && chkOpd d x && chkOpd d' y && flatType P t ks
  | .beq neg d d', .binOp op t x y _ => (match neg, op with | false, .eql => true | true, .neq => true | _, _ => false) && chkOpd d x && chkOpd d' y && (match P.underlying t with | some .bool => true | _ => false)
  | .isnil neg d, .binOp op t x y _ => (match neg, op with | false, .eql => true | true, .neq => true | _, _ => false) && isSlice P t && ((isNilC y && chkOpd d x) || (isNilC x && chkOpd d y))
  | _, _ => false


theorem eq1_sim {P : Program} {j : J} {v w : DV} {v' w' : Value} {b k : Bool} (hv : VR j v v') (hw : VR j w w') (h : eq1V k v w = some b) (d : Nat) (t : Nat)
    (ht : flat1 P t k = true) (W : World) : (Op.equalIn (d + 1) t v' w').run P W = .ok b W := by
  unfold flat1 at ht
  cases k with
  | true =>
    cases hv <;> simp only [eq1V, reduceCtorEq] at h
    cases hw <;> simp only [reduceCtorEq, Option.some.injEq] at h
    subst h
    cases hu : P.underlying t with
    | none => simp [hu] at ht
    | some dd =>
      cases dd <;> simp [hu] at ht
      exact run_equalIn_bool' W d t _ _ hu
  | false =>
    cases hv <;> simp only [eq1V, reduceCtorEq] at h
    cases hw <;> simp only [reduceCtorEq, Option.some.injEq] at h
    rename_i k n k' n'
    by_cases hs : sameK k k' = true
    · rw [if_pos hs] at h
      simp only [Option.some.injEq] at h
      have := sameK_eq hs
      subst this
      cases hu : P.underlying t with
      | none => simp [hu] at ht
      | some dd =>
        cases dd <;> simp [hu] at ht
        rename_i kk
        rw [run_equalIn_int W d t k kk n n' hu, ← h]
        congr 1
    · rw [if_neg hs] at h; cases h
theorem eqs_sim {P : Program} {j : J} (xs ys : Array Value) (d : Nat) (W : World) : ∀ (fs : List Field) (n : Nat) (ks : List Bool) (l m : List DV) (b : Bool), flatFields P fs n ks = true →
    VRs j l (xs.toList.drop n) → VRs j m (ys.toList.drop n) → eqsV ks l m = some b → (Op.eqFields (d + 1) xs ys fs).run P W = .ok b W
  | [], n, [], l, m, b, _, hl, hm, h => by
    cases l <;> cases m <;> simp [eqsV] at h
    subst h; rfl
  | [], _, _ :: _, _, _, _, hf, _, _, _ => by simp [flatFields] at hf
  | _ :: _, _, [], _, _, _, hf, _, _, _ => by simp [flatFields] at hf
  | f :: fs, n, k :: ks, l, m, b, hf, hl, hm, h => by
    simp only [flatFields, Bool.and_eq_true, Bool.not_eq_true', Nat.beq_eq] at hf
    obtain ⟨⟨⟨hname, hoff⟩, hflat⟩, hrest⟩ := hf
    cases l with
    | nil => simp [eqsV] at h
    | cons v l =>
      cases m with
      | nil => simp [eqsV] at h
      | cons w m =>
        obtain ⟨v', hv', hv, _⟩ := hl.get 0 v rfl
        obtain ⟨w', hw', hw, _⟩ := hm.get 0 w rfl
        have hl' : VRs j l (xs.toList.drop (n + 1)) := by have := hl.drop 1; simpa using this
        have hm' : VRs j m (ys.toList.drop (n + 1)) := by have := hm.drop 1; simpa using this
        have hagg : ∀ W : World, (isAgg f.type).run P W = .ok false W := by
          intro W
          unfold flat1 at hflat
          cases hu : P.underlying f.type with
          | none => simp [hu] at hflat
          | some dd => exact run_isAgg_plain hu (by cases dd <;> cases k <;> simp [hu] at hflat <;> rfl) W
        have hx : (part f.type xs f.offset).run P W = .ok v' W := by
          simp only [List.getElem?_drop, Nat.add_zero, Array.getElem?_toList] at hv'
          simp [part, hagg, hoff, hv']
        have hy : (part f.type ys f.offset).run P W = .ok w' W := by
          simp only [List.getElem?_drop, Nat.add_zero, Array.getElem?_toList] at hw'
          simp [part, hagg, hoff, hw']
        have hne : f.name ≠ "_" := by simpa using hname
        simp only [eqsV] at h
        simp only [Op.eqFields, if_pos hne, Sem.run_bind, hx, hy, Result.andThen_ok]
        cases h1 : eq1V k v w with
        | none => simp [h1] at h
        | some c =>
          rw [eq1_sim hv hw h1 d f.type hflat W]
          cases c with
          | false => simp [h1] at h; subst h; simp
          | true => simp only [h1] at h; simp; exact eqs_sim xs ys d W fs (n + 1) ks l m b hrest hl' hm' h

end Go.Proofs.Ythdlkpmhjbaplaa.Dx
