/- The small machine's instructions that touch no memory do what Go's operations do. No statement of this seat is proved here. -/
import Derived.Test.YtnoekfkfinjfgaaGreatDoorUe
import Derived.Great.BuildSlice
import Derived.WalkSpells
import Derived.Laws.StructEq
import Derived.Shelf.Abstract
import Derived.Test.YtnoekfkfinjfgaaGreatDoorUd
set_option autoImplicit false
set_option linter.unusedSectionVars false
set_option linter.unusedSimpArgs false
set_option linter.unusedVariables false
noncomputable section
namespace Go.Proofs.YtnoekfkfinjfgaaGreatDoor.Dx
open Go
variable [Rho]

def sizeIs (P : Program) (t n : Nat) : Bool := match P.info? t with | some i => Nat.beq i.size n | none => false
theorem sizeIs_spec {P : Program} {t n : Nat} (h : sizeIs P t n = true) : ∃ i, P.info? t = some i ∧ i.size = n := by
  unfold sizeIs at h
  cases hi : P.info? t with
  | none => simp [hi] at h
  | some i => simp only [hi, Nat.beq_eq] at h; exact ⟨i, rfl, h⟩
def aggIs (P : Program) (t : Nat) (b : Bool) : Bool := match P.underlying t with
  | some (.struct _) => b
  | some (.array _ _) => b
  | some _ => !b
  | none => false
theorem aggIs_spec {P : Program} {t : Nat} {b : Bool} (h : aggIs P t b = true) (w : World) : (isAgg t).run P w = .ok b w := by
  unfold aggIs at h
  cases hu : P.underlying t with
  | none => simp [hu] at h
  | some d =>
    unfold isAgg
    rw [Sem.run_bind, run_underlying hu]
    cases d <;> simp [hu] at h <;> subst h <;> rfl

/-! ### laying parts over -/

theorem get_foldl_set (off : Nat) : ∀ (l : List Value) (k : Nat) (cells : Array Value) (i : Nat),
    ((l.zipIdx k).foldl (fun cs x => cs.setIfInBounds (off + x.2) x.1) cells)[i]? = if off + k ≤ i ∧ i < off + k + l.length ∧ i < cells.size then l[i - off - k]? else cells[i]?
  | [], k, cells, i => by simp; intro h1 h2; omega
  | v :: l, k, cells, i => by
    simp only [List.zipIdx_cons, List.foldl_cons]
    rw [get_foldl_set off l (k + 1)]
    simp only [Array.size_setIfInBounds, List.length_cons, Array.getElem?_setIfInBounds]
    by_cases h1 : off + (k + 1) ≤ i ∧ i < off + (k + 1) + l.length ∧ i < cells.size
    · rw [if_pos h1, if_pos (by omega), show i - off - k = (i - off - (k + 1)) + 1 by omega]; rfl
    · rw [if_neg h1]
      by_cases h2 : off + k = i
      · subst h2
        by_cases h3 : off + k < cells.size
        · rw [if_pos rfl, if_pos h3, if_pos ⟨Nat.le_refl _, by omega, h3⟩, show off + k - off - k = 0 by omega]; rfl
        · rw [if_pos rfl, if_neg h3, if_neg (fun h => h3 h.2.2), Array.getElem?_eq_none (by omega)]
      · rw [if_neg h2, if_neg (by omega)]
theorem size_foldl_set (off : Nat) : ∀ (l : List (Value × Nat)) (cells : Array Value), (l.foldl (fun cs x => cs.setIfInBounds (off + x.2) x.1) cells).size = cells.size
  | [], _ => rfl
  | x :: l, cells => by simp only [List.foldl_cons]; rw [size_foldl_set off l]; simp

def chkParts (place : Nat → Option (Nat × Nat)) : List (Nat × Nat × Opd) → List (Nat × Operand) → Bool
  | [], [] => true
  | (off, sz, d) :: ps, (i, x) :: qs => (match place i with | some (o, s) => Nat.beq o off && Nat.beq s sz | none => false) && chkOpd d x && chkParts place ps qs
  | _, _ => false

theorem fill_sim {j : J} {pv : P → Option Nat} {e : Env} {ρ : Operand → Value} (hr : Reads j pv e ρ) (place : Nat → Option (Nat × Nat)) :
    ∀ (ps : List (Nat × Nat × Opd)) (qs : List (Nat × Operand)) (z z' : List DV) (cells : Array Value), chkParts place ps qs = true → VRs j z cells.toList → fills e ps z = some z' →
      ∃ cells', Instr.fill place cells (qs.map fun q => (q.1, ρ q.2)) = some cells' ∧ VRs j z' cells'.toList
  | [], [], z, z', cells, _, hz, hf => by simp only [fills, Option.some.injEq] at hf; subst hf; exact ⟨cells, rfl, hz⟩
  | [], _ :: _, _, _, _, hc, _, _ => by simp [chkParts] at hc
  | _ :: _, [], _, _, _, hc, _, _ => by simp [chkParts] at hc
  | (off, sz, d) :: ps, (i, x) :: qs, z, z', cells, hc, hz, hf => by
    simp only [chkParts, Bool.and_eq_true] at hc
    obtain ⟨⟨hp, hd⟩, hrest⟩ := hc
    simp only [fills] at hf
    cases hl : (ov d e).cells with
    | none => simp [hl] at hf
    | some l =>
      simp only [hl] at hf
      by_cases hcond : l.length = sz ∧ off + l.length ≤ z.length
      case neg => simp [if_neg hcond] at hf
      rw [if_pos hcond] at hf
      have hv := (hr.ov hd).cells hl
      cases hpl : place i with
      | none => simp [hpl] at hp
      | some q =>
        obtain ⟨o, s⟩ := q
        simp only [hpl, Bool.and_eq_true, Nat.beq_eq] at hp
        obtain ⟨rfl, rfl⟩ := hp
        have hlen := hv.length
        have hzl := hz.length
        simp only [Array.length_toList] at hlen hzl
        have hnew : VRs j (z.take o ++ l ++ z.drop (o + l.length)) (((ρ x).cells.zipIdx.foldl (fun cs (c, j) => cs.setIfInBounds (o + j) c) cells)).toList := by
          have hfold : ((ρ x).cells.zipIdx.foldl (fun cs (c, j) => cs.setIfInBounds (o + j) c) cells) = ((ρ x).cells.toList.zipIdx 0).foldl (fun cs x => cs.setIfInBounds (o + x.2) x.1) cells := by
            rw [← Array.foldl_toList, Array.toList_zipIdx]
          refine VRs.of_get ?_ ?_
          · rw [hfold]
            show _ = Array.size _
            rw [size_foldl_set]; simp; omega
          · intro i v hi
            rw [hfold, Array.getElem?_toList, get_foldl_set]
            simp only [Nat.add_zero, Nat.sub_zero, Array.length_toList]
            by_cases h1 : i < o
            · rw [if_neg (by omega)]
              rw [List.getElem?_append_left (by simp; omega), List.getElem?_append_left (by simp; omega), List.getElem?_take] at hi
              rw [if_pos h1] at hi
              obtain ⟨v', hv', hh⟩ := hz.get i v hi
              exact ⟨v', by simpa using hv', hh⟩
            · by_cases h2 : i < o + l.length
              · rw [if_pos (by omega)]
                rw [List.getElem?_append_left (by simp; omega), List.getElem?_append_right (by simp; omega)] at hi
                simp only [List.length_take, show min o z.length = o by omega] at hi
                exact hv.get _ v hi
              · rw [if_neg (by omega)]
                rw [List.getElem?_append_right (by simp; omega)] at hi
                simp only [List.length_append, List.length_take, show min o z.length = o by omega, List.getElem?_drop] at hi
                rw [show o + l.length + (i - (o + l.length)) = i by omega] at hi
                obtain ⟨v', hv', hh⟩ := hz.get i v hi
                exact ⟨v', by simpa using hv', hh⟩
        obtain ⟨c', hc', hr'⟩ := fill_sim hr place ps qs _ z' _ hrest hnew hf
        refine ⟨c', ?_, hr'⟩
        simp only [List.map_cons, Instr.fill, hpl]
        rw [if_neg (by simp only [Bool.or_eq_true, decide_eq_true_eq, not_or]; omega)]
        exact hc'


/-! ### The operations -/

def kindOf (P : Program) (t : Nat) (k : IntKind) : Bool := match P.underlying t with | some (.int j) => sameK j k | _ => false
def boOf : Bo → BinOp
  | .add => .add | .sub => .sub | .mul => .mul | .quo => .quo | .rem => .rem | .eq => .eql | .ne => .neq | .lt => .lss | .le => .leq | .gt => .gtr | .ge => .geq
def sameBo : Bo → BinOp → Bool
  | .add, .add | .sub, .sub | .mul, .mul | .quo, .quo | .rem, .rem | .eq, .eql | .ne, .neq | .lt, .lss | .le, .leq | .gt, .gtr | .ge, .geq => true
  | _, _ => false
theorem sameBo_eq {b : Bo} {o : BinOp} (h : sameBo b o = true) : o = boOf b := by cases b <;> cases o <;> first | rfl | (simp [sameBo] at h)
def chkOO : Option Opd → Option Operand → Bool
  | none, none => true
  | some d, some x => chkOpd d x
  | _, _ => false
def flat1 (P : Program) (t : Nat) (k : Bool) : Bool := match P.underlying t, k with | some .bool, true => true | some (.int _), false => true | _, _ => false
def flatFields (P : Program) : List Field → Nat → List Bool → Bool
  | [], _, [] => true
  | f :: fs, n, k :: ks => !(f.name == "_") && Nat.beq f.offset n && flat1 P f.type k && flatFields P fs (n + 1) ks
  | _, _, _ => false
/-- a struct of such numbers and bools, each with a name; a bool -/
def flatType (P : Program) (t : Nat) (ks : List Bool) : Bool := match P.underlying t, ks with
  | some (.struct fs), ks => flatFields P fs.toList 0 ks && !P.stoodInHeld t && !P.eqGuardType P.depth t
  | _, _ => false
def placesOf (P : Program) (fs : Array Field) : Option (List (Nat × Nat)) := fs.toList.mapM fun f => (P.info? f.type).map fun i => (f.offset, i.size)
def chkBld (P : Program) (z : List DV) (ps : List (Nat × Nat × Opd)) (t : Nat) (qs : List (Nat × Operand)) : Bool :=
  match P.info? t, P.underlying t with
  | some it, some (.struct fs) => match it.zero, placesOf P fs with
    | some zv, some places => okCs z zv.cells.toList && chkParts (places.toArray[·]?) ps qs
    | _, _ => false
  | some it, some (.array _ e) => match it.zero, P.info? e with
    | some zv, some ie => okCs z zv.cells.toList && chkParts (fun i => some (i * ie.size, ie.size)) ps qs
    | _, _ => false
  | _, _ => false
def chkField (P : Program) (s f o : Nat) (n : Option Nat) : Bool :=
  match P.underlying s with
  | some (.struct fs) => match fs[f]? with
    | some fd => Nat.beq fd.offset o && (match P.info? fd.type with | some i => !Nat.beq i.size 0 && (match n with | none => true | some m => Nat.beq i.size m) | none => false) && aggIs P fd.type n.isSome
    | none => false
  | _ => false
def chkFieldA (P : Program) (s f o : Nat) : Bool :=
  match P.underlying s with
  | some (.struct fs) => match fs[f]? with
    | some fd => Nat.beq fd.offset o && (match P.info? fd.type with | some i => !Nat.beq i.size 0 | none => false)
    | none => false
  | _ => false
def sliceIs (P : Program) (t sz : Nat) : Bool := match P.underlying t with | some (.slice e) => sizeIs P e sz && !Nat.beq sz 0 | _ => false
def isSlice (P : Program) (t : Nat) : Bool := match P.underlying t with | some (.slice _) => true | _ => false
def isNilC : Operand → Bool
  | .const (.slice none _ _) => true
  | _ => false

def isStr (P : Program) (t : Nat) : Bool := match P.underlying t with | some .string => true | _ => false
def isIntT (P : Program) (t : Nat) : Bool := match P.underlying t with | some (.int _) => true | _ => false
def isIfc (P : Program) (t : Nat) : Bool := match P.underlying t with | some (.interface _) => true | _ => false
def notIfc (P : Program) (t : Nat) : Bool := match P.underlying t with | some (.interface _) => false | some _ => true | none => false
def negOp : Bool → BinOp → Bool
  | false, .eql | true, .neq => true
  | _, _ => false
def isNilI : Operand → Bool
  | .const .nilIface => true
  | _ => false
/-- cells of a struct of numbers, bools, strings -/
def flat3 (P : Program) (t k : Nat) : Bool := match P.underlying t, k with | some (.int _), 0 => true | some .bool, 1 => true | some .string, 2 => true | _, _ => false
def flatFields3 (P : Program) : List Field → Nat → List Nat → Bool
  | [], _, [] => true
  | f :: fs, n, k :: ks => !(f.name == "_") && Nat.beq f.offset n && flat3 P f.type k && flatFields3 P fs (n + 1) ks
  | _, _, _ => false
def flatType3 (P : Program) (t : Nat) (ks : List Nat) : Bool := match P.underlying t with
  | some (.struct fs) => flatFields3 P fs.toList 0 ks && !P.stoodInHeld t && !P.eqGuardType P.depth t
  | _ => false
def arrPtr (P : Program) (t len sz : Nat) : Bool := match P.underlying t with
  | some (.array n el) => Nat.beq n len && sizeIs P el sz && !Nat.beq sz 0
  | _ => false
/-- Is this what is worked out of values alone that operation? -/
def chkPx (P : Program) (p : Px) (ds : List Opd) (o : Go.Op) : Bool :=
  match p, ds, o with
  | .slen, [d], .call ⟨.builtin .len, ⟨[x]⟩, ⟨[t]⟩⟩ => chkOpd d x && isStr P t
  | .sidx, [d, d'], .index t x i => chkOpd d x && chkOpd d' i && isStr P t
  | .ssl false false, [d], .slice t x none none none => chkOpd d x && isStr P t
  | .ssl true false, [d, d1], .slice t x (some l) none none => chkOpd d x && chkOpd d1 l && isStr P t
  | .ssl false true, [d, d1], .slice t x none (some h) none => chkOpd d x && chkOpd d1 h && isStr P t
  | .ssl true true, [d, d1, d2], .slice t x (some l) (some h) none => chkOpd d x && chkOpd d1 l && chkOpd d2 h && isStr P t
  | .seq neg, [d, d'], .binOp op t x y _ => negOp neg op && chkOpd d x && chkOpd d' y && isStr P t
  | .slt, [d, d'], .binOp .lss t x y _ => chkOpd d x && chkOpd d' y && isStr P t
  | .scat, [d, d'], .binOp .add t x y _ => chkOpd d x && chkOpd d' y && isStr P t
  | .band, [d, d'], .binOp .and t x y _ | .bor, [d, d'], .binOp .or t x y _ | .bxor, [d, d'], .binOp .xor t x y _ | .bandn, [d, d'], .binOp .andNot t x y _
  | .shl, [d, d'], .binOp .shl t x y _ => chkOpd d x && chkOpd d' y && isIntT P t
  | .com, [d], .unOp .xor t x => chkOpd d x && isIntT P t
  | .ifc u, [d], .makeInterface t x => Nat.beq u t && chkOpd d x && notIfc P t
  | .inil neg, [d], .binOp op t x y _ => negOp neg op && isIfc P t && ((isNilI y && chkOpd d x) || (isNilI x && chkOpd d y))
  | .ceq ks neg, [d, d'], .binOp op t x y _ => negOp neg op && chkOpd d x && chkOpd d' y && flatType3 P t ks
  | .ixa len sz, [d, d'], .indexAddr t x y => chkOpd d x && chkOpd d' y && arrPtr P t len sz
  | _, _, _ => false

/-- Is this instruction, which touches no memory, that operation? -/
def chkPure (P : Program) (i : Ins) (o : Go.Op) : Bool :=
  match i, o with
  | .mv d, .move x | .mv d, .assign x => chkOpd d x
  | .pick c a b, .pick x y z => chkOpd c x && chkOpd a y && chkOpd b z
  | .bld z ps, .build t qs => chkBld P z ps t qs.toList
  | .nc d, .nilCheck x => chkOpd d x
  | .bin b d d', .binOp op t x y _ => sameBo b op && chkOpd d x && chkOpd d' y && (match P.underlying t with | some (.int _) => true | _ => false)
  | .neg d, .unOp .neg _ x => chkOpd d x
  | .shr d d', .binOp .shr t x y _ => chkOpd d x && chkOpd d' y && (match P.underlying t with | some (.int _) => true | _ => false)
  | .not d, .unOp .not _ x => chkOpd d x
  | .cv k d, .convert s t x => chkOpd d x && kindOf P t k && (match P.underlying s with | some (.int _) => true | _ => false)
  | .mfn f cs, .makeFunc (.func g) ⟨[]⟩ xs => Nat.beq f.n g && chkOpds cs xs.toList
  | .mbf f cs, .makeFunc (.func g) xs ⟨[]⟩ => Nat.beq f.n g && chkOpds cs xs.toList
  | .fa n d, .fieldAddr s x f => chkOpd d x && chkFieldA P s f n
  | .fi n d, .field s x f => chkOpd d x && chkField P s f n none
  | .fia n m d, .field s x f => chkOpd d x && chkField P s f n (some m)
  | .ia sz d d', .indexAddr t x y => chkOpd d x && chkOpd d' y && sliceIs P t sz
  | .sla sz d lo hi mx, .slice t x l h m => chkOpd d x && chkOO lo l && chkOO hi h && chkOO mx m && sliceIs P t sz && (mx.isNone || hi.isSome)
  | .ex d n, .extract x m => chkOpd d x && Nat.beq n m
  | .len d, .call ⟨.builtin .len, ⟨[x]⟩, ⟨[t]⟩⟩ => chkOpd d x && isSlice P t
  | .cap d, .call ⟨.builtin .cap, ⟨[x]⟩, ⟨[t]⟩⟩ => chkOpd d x && isSlice P t
  | .mx d l, .call ⟨.builtin .max, ⟨x :: xs⟩, _⟩ => chkOpd d x && chkOpds l xs
  | .mn d l, .call ⟨.builtin .min, ⟨x :: xs⟩, _⟩ => chkOpd d x && chkOpds l xs
  | .aeq ks neg d d', .binOp op t x y _ => (match neg, op with | false, .eql => true | true, .neq => true | _, _ => false) && chkOpd d x && chkOpd d' y && flatType P t ks
  | .beq neg d d', .binOp op t x y _ => (match neg, op with | false, .eql => true | true, .neq => true | _, _ => false) && chkOpd d x && chkOpd d' y && (match P.underlying t with | some .bool => true | _ => false)
  | .isnil neg d, .binOp op t x y _ => (match neg, op with | false, .eql => true | true, .neq => true | _, _ => false) && isSlice P t && ((isNilC y && chkOpd d x) || (isNilC x && chkOpd d y))
  | .px p ds, o => chkPx P p ds o
  | _, _ => false


theorem eq1_sim {P : Program} {j : J} {v w : DV} {v' w' : Value} {b k : Bool} (hv : VR j v v') (hw : VR j w w') (h : eq1V k v w = some b) (d : Nat) (t : Nat)
    (ht : flat1 P t k = true) (W : World) : (Op.equalIn (d + 1) t v' w').run P W = .ok b W := by
  unfold flat1 at ht
  cases k with
  | true =>
    cases hv <;> simp only [eq1V, reduceCtorEq] at h
    cases hw <;> simp only [reduceCtorEq, Option.some.injEq] at h
    subst h
    cases hu : P.underlying t with
    | none => simp [hu] at ht
    | some dd =>
      cases dd <;> simp [hu] at ht
      exact run_equalIn_bool' W d t _ _ hu
  | false =>
    cases hv <;> simp only [eq1V, reduceCtorEq] at h
    cases hw <;> simp only [reduceCtorEq, Option.some.injEq] at h
    rename_i k n k' n'
    by_cases hs : sameK k k' = true
    · rw [if_pos hs] at h
      simp only [Option.some.injEq] at h
      have := sameK_eq hs
      subst this
      cases hu : P.underlying t with
      | none => simp [hu] at ht
      | some dd =>
        cases dd <;> simp [hu] at ht
        rename_i kk
        rw [run_equalIn_int W d t k kk n n' hu, ← h]
        congr 1
    · rw [if_neg hs] at h; cases h
theorem eqs_sim {P : Program} {j : J} (xs ys : Array Value) (d : Nat) (W : World) : ∀ (fs : List Field) (n : Nat) (ks : List Bool) (l m : List DV) (b : Bool), flatFields P fs n ks = true →
    VRs j l (xs.toList.drop n) → VRs j m (ys.toList.drop n) → eqsV ks l m = some b → (Op.eqFields (d + 1) xs ys fs).run P W = .ok b W
  | [], n, [], l, m, b, _, hl, hm, h => by
    cases l <;> cases m <;> simp [eqsV] at h
    subst h; rfl
  | [], _, _ :: _, _, _, _, hf, _, _, _ => by simp [flatFields] at hf
  | _ :: _, _, [], _, _, _, hf, _, _, _ => by simp [flatFields] at hf
  | f :: fs, n, k :: ks, l, m, b, hf, hl, hm, h => by
    simp only [flatFields, Bool.and_eq_true, Bool.not_eq_true', Nat.beq_eq] at hf
    obtain ⟨⟨⟨hname, hoff⟩, hflat⟩, hrest⟩ := hf
    cases l with
    | nil => simp [eqsV] at h
    | cons v l =>
      cases m with
      | nil => simp [eqsV] at h
      | cons w m =>
        obtain ⟨v', hv', hv, _⟩ := hl.get 0 v rfl
        obtain ⟨w', hw', hw, _⟩ := hm.get 0 w rfl
        have hl' : VRs j l (xs.toList.drop (n + 1)) := by have := hl.drop 1; simpa using this
        have hm' : VRs j m (ys.toList.drop (n + 1)) := by have := hm.drop 1; simpa using this
        have hagg : ∀ W : World, (isAgg f.type).run P W = .ok false W := by
          intro W
          unfold flat1 at hflat
          cases hu : P.underlying f.type with
          | none => simp [hu] at hflat
          | some dd => exact run_isAgg_plain hu (by cases dd <;> cases k <;> simp [hu] at hflat <;> rfl) W
        have hx : (part f.type xs f.offset).run P W = .ok v' W := by
          simp only [List.getElem?_drop, Nat.add_zero, Array.getElem?_toList] at hv'
          simp [part, hagg, hoff, hv']
        have hy : (part f.type ys f.offset).run P W = .ok w' W := by
          simp only [List.getElem?_drop, Nat.add_zero, Array.getElem?_toList] at hw'
          simp [part, hagg, hoff, hw']
        have hne : f.name ≠ "_" := by simpa using hname
        simp only [eqsV] at h
        simp only [Op.eqFields, if_pos hne, Sem.run_bind, hx, hy, Result.andThen_ok]
        cases h1 : eq1V k v w with
        | none => simp [h1] at h
        | some c =>
          rw [eq1_sim hv hw h1 d f.type hflat W]
          cases c with
          | false => simp [h1] at h; subst h; simp
          | true => simp only [h1] at h; simp; exact eqs_sim xs ys d W fs (n + 1) ks l m b hrest hl' hm' h

end Go.Proofs.YtnoekfkfinjfgaaGreatDoor.Dx

set_option autoImplicit false
set_option linter.unusedSectionVars false
set_option linter.unusedSimpArgs false
set_option linter.unusedVariables false
noncomputable section
namespace Go.Proofs.YtnoekfkfinjfgaaGreatDoor.Dx
open Go
variable [Rho]

theorem codeB_lt (l : List UInt8) : codeB l < 256 ^ l.length := by
  induction l with
  | nil => simp [codeB]
  | cons b l ih =>
    have hb : b.toNat < 256 := b.toNat_lt
    simp only [codeB, List.length_cons, Nat.pow_succ]
    omega
theorem codeB_append (l m : List UInt8) : codeB (l ++ m) = codeB l + 256 ^ l.length * codeB m := by
  induction l with
  | nil => simp [codeB]
  | cons b l ih =>
    simp only [List.cons_append, codeB, ih, List.length_cons, Nat.pow_succ]
    rw [Nat.mul_add, Nat.mul_comm (256 ^ l.length) 256, Nat.mul_assoc, Nat.add_assoc]
theorem codeB_div (l : List UInt8) (i : Nat) : codeB l / 256 ^ i = codeB (l.drop i) := by
  induction i generalizing l with
  | zero => simp
  | succ i ih =>
    cases l with
    | nil => simp [codeB]
    | cons b l =>
      have hb : b.toNat < 256 := b.toNat_lt
      rw [List.drop_succ_cons, ← ih, Nat.pow_succ, Nat.mul_comm, ← Nat.div_div_eq_div_mul]
      have : codeB (b :: l) / 256 = codeB l := by simp only [codeB]; omega
      rw [this]
theorem codeB_mod (l : List UInt8) (i : Nat) : codeB l % 256 ^ i = codeB (l.take i) := by
  by_cases h : i ≤ l.length
  · have h1 := codeB_append (l.take i) (l.drop i)
    rw [List.take_append_drop, List.length_take, Nat.min_eq_left h] at h1
    have h2 := codeB_lt (l.take i)
    rw [List.length_take, Nat.min_eq_left h] at h2
    rw [h1, Nat.add_mul_mod_self_left, Nat.mod_eq_of_lt h2]
  · rw [List.take_of_length_le (by omega)]
    refine Nat.mod_eq_of_lt (Nat.lt_of_lt_of_le (codeB_lt l) (Nat.pow_le_pow_right (by omega) (by omega)))
theorem codeB_get {l : List UInt8} {i : Nat} {b : UInt8} (h : l[i]? = some b) : b.toNat = codeB l / 256 ^ i % 256 := by
  rw [codeB_div]
  have hlt := (List.getElem?_eq_some_iff.1 h).1
  rw [List.drop_eq_getElem_cons hlt]
  have hb : b.toNat < 256 := b.toNat_lt
  have : l[i] = b := (List.getElem?_eq_some_iff.1 h).2
  rw [this]
  simp only [codeB]; omega
theorem codeB_inj : ∀ {l m : List UInt8}, l.length = m.length → codeB l = codeB m → l = m
  | [], [], _, _ => rfl
  | [], _ :: _, h, _ => by simp at h
  | _ :: _, [], h, _ => by simp at h
  | a :: l, b :: m, h, hc => by
    have ha : a.toNat < 256 := a.toNat_lt
    have hb : b.toNat < 256 := b.toNat_lt
    simp only [codeB] at hc
    have h1 : a.toNat = b.toNat := by omega
    have h2 : codeB l = codeB m := by omega
    rw [UInt8.toNat_inj.1 h1, codeB_inj (by simpa using h) h2]
theorem toList_data (s : ByteArray) : s.toList = s.data.toList := by
  have key : ∀ (n i : Nat) (r : List UInt8), s.data.size - i = n → ByteArray.toList.loop s i r = r.reverse ++ s.data.toList.drop i := by
    intro n
    induction n with
    | zero =>
      intro i r hn
      unfold ByteArray.toList.loop
      rw [if_neg (show ¬ i < s.size from by show ¬ i < s.data.size; omega), List.drop_eq_nil_of_le (by rw [Array.length_toList]; omega)]
      simp
    | succ n ih =>
      intro i r hn
      have hi : i < s.data.size := by omega
      unfold ByteArray.toList.loop
      have hl : i < s.data.toList.length := by rw [Array.length_toList]; exact hi
      have hd := List.drop_eq_getElem_cons hl
      rw [if_pos (show i < s.size from hi), ih (i + 1) _ (by omega), hd]
      have : s.get! i = s.data.toList[i] := by
        show s.data[i]! = _
        rw [getElem!_pos s.data i hi]; simp
      rw [this]; simp
  have := key s.data.size 0 [] (by omega)
  simpa [ByteArray.toList] using this
/-- The same bytes, the same numbers. -/
theorem str_eq {s t : ByteArray} : (s.toList == t.toList) = (Nat.beq s.data.size t.data.size && Nat.beq (codeB s.data.toList) (codeB t.data.toList)) := by
  rw [toList_data, toList_data, Bool.eq_iff_iff]
  simp only [beq_iff_eq, Bool.and_eq_true, Nat.beq_eq]
  constructor
  · intro h; exact ⟨by have := congrArg List.length h; simpa using this, by rw [h]⟩
  · intro h; exact codeB_inj (by simpa using h.1) h.2
theorem ltB_eq : ∀ (f : Nat) (l m : List UInt8), l.length + m.length ≤ f → ltB f l.length (codeB l) m.length (codeB m) = Op.bytesLess l m
  | 0, l, m, h => by
    have h1 : l = [] := List.length_eq_zero_iff.1 (by omega)
    have h2 : m = [] := List.length_eq_zero_iff.1 (by omega)
    subst h1 h2; rfl
  | f + 1, l, [], h => by cases l <;> rfl
  | f + 1, [], b :: m, h => rfl
  | f + 1, a :: l, b :: m, h => by
    have ha : a.toNat < 256 := a.toNat_lt
    have hb : b.toNat < 256 := b.toNat_lt
    have h1 : codeB (a :: l) % 256 = a.toNat := by simp only [codeB]; omega
    have h2 : codeB (b :: m) % 256 = b.toNat := by simp only [codeB]; omega
    have h3 : codeB (a :: l) / 256 = codeB l := by simp only [codeB]; omega
    have h4 : codeB (b :: m) / 256 = codeB m := by simp only [codeB]; omega
    simp only [List.length_cons] at h
    show (match Nat.beq (codeB (a :: l) % 256) (codeB (b :: m) % 256) with
      | true => ltB f l.length (codeB (a :: l) / 256) m.length (codeB (b :: m) / 256)
      | false => Nat.ble (codeB (a :: l) % 256 + 1) (codeB (b :: m) % 256)) = _
    rw [h1, h2, h3, h4, ltB_eq f l m (by omega)]
    simp only [Op.bytesLess]
    by_cases he : a = b
    · subst he
      have : Nat.beq a.toNat a.toNat = true := Nat.beq_refl _
      rw [this]; simp
    · have hne : a.toNat ≠ b.toNat := fun h => he (UInt8.toNat_inj.1 h)
      have : Nat.beq a.toNat b.toNat = false := by cases hq : Nat.beq a.toNat b.toNat with
        | false => rfl
        | true => exact absurd (Nat.eq_of_beq_eq_true hq) hne
      rw [this]
      have hab : (a == b) = false := by simpa using he
      rw [hab]
      simp only [Bool.false_and, Bool.or_false]
      rw [Bool.eq_iff_iff, Nat.ble_eq, decide_eq_true_eq, UInt8.lt_iff_toNat_lt]
      omega
end Go.Proofs.YtnoekfkfinjfgaaGreatDoor.Dx

set_option autoImplicit false
set_option linter.unusedSectionVars false
set_option linter.unusedSimpArgs false
set_option linter.unusedVariables false
noncomputable section
namespace Go.Proofs.YtnoekfkfinjfgaaGreatDoor.Dx
open Go
variable [Rho]

theorem isStr_spec {Pr : Program} {t : Nat} (h : isStr Pr t = true) : Pr.underlying t = some .string := by
  unfold isStr at h
  cases hu : Pr.underlying t with
  | none => simp [hu] at h
  | some d => cases d <;> simp [hu] at h <;> rfl
theorem isIntT_spec {Pr : Program} {t : Nat} (h : isIntT Pr t = true) : ∃ k, Pr.underlying t = some (.int k) := by
  unfold isIntT at h
  cases hu : Pr.underlying t with
  | none => simp [hu] at h
  | some d => cases d <;> simp [hu] at h; exact ⟨_, rfl⟩
theorem natV_spec {i : Int} {n : Nat} (h : natV i = some n) : i = (n : Int) := by
  cases i <;> simp [natV] at h; subst h; rfl
theorem VR.ifc_inv {j : J} {t : Nat} {v : DV} {v' : Value} (h : VR j (.ifc t v) v') : ∃ u, v' = .iface t u := by cases h; exact ⟨_, rfl⟩
theorem VR.nili_inv {j : J} {v' : Value} (h : VR j .nili v') : v' = .nilIface := by cases h; rfl
theorem run_ifc_nil {Pr : Program} {t : Nat} {ms : Array (String × TypeId)} (hu : Pr.underlying t = some (.interface ms)) (d u : Nat) (v : Value) (w : World) :
    (Op.equalIn (d + 1) t (.iface u v) .nilIface).run Pr w = .ok false w := by simp [Op.equalIn, run_underlying hu]
theorem run_nil_ifc {Pr : Program} {t : Nat} {ms : Array (String × TypeId)} (hu : Pr.underlying t = some (.interface ms)) (d u : Nat) (v : Value) (w : World) :
    (Op.equalIn (d + 1) t .nilIface (.iface u v)).run Pr w = .ok false w := by simp [Op.equalIn, run_underlying hu]
theorem run_nil_nil {Pr : Program} {t : Nat} {ms : Array (String × TypeId)} (hu : Pr.underlying t = some (.interface ms)) (d : Nat) (w : World) :
    (Op.equalIn (d + 1) t .nilIface .nilIface).run Pr w = .ok true w := by simp [Op.equalIn, run_underlying hu]
theorem xb_eq (neg b : Bool) : xb neg b = .bool (neg != b) := by cases neg <;> cases b <;> rfl
theorem str_get {s : ByteArray} {i : Nat} (h : i < s.data.size) : s[i]? = some (s.data[i]) := by
  rw [getElem?_pos s i (show i < s.size from h)]; rfl
theorem twB_eq (k : IntKind) (x : Int) : twB k x = (BitVec.ofInt k.bits x).toNat := by
  unfold twB; rw [bitsK_eq, BitVec.toNat_ofInt]
theorem bits_sub (k : IntKind) (y : Int) : 2 ^ bitsK k - 1 - twB k y = (~~~(BitVec.ofInt k.bits y)).toNat := by
  rw [BitVec.toNat_not, twB_eq, bitsK_eq]
theorem beqB_eq (a b : Bool) : beqB a b = (a == b) := by cases a <;> cases b <;> rfl

def ce1 : Nat → DV → DV → Option Bool
  | 0, .int j x, .int k y => match sameK j k with | true => some (ieq x y) | false => none
  | 1, .bool a, .bool b => some (beqB a b)
  | 2, .str a x, .str b y => some (Nat.beq a b && Nat.beq x y)
  | _, _, _ => none
theorem ceV_cons (k : Nat) (ks : List Nat) (v w : DV) (l m : List DV) : ceV (k :: ks) (v :: l) (w :: m) = match ce1 k v w with
    | some true => ceV ks l m
    | some false => (match ceV ks l m with | some _ => some false | none => none)
    | none => none := by
  match k, v, w with
  | 0, .int j x, .int k y => simp only [ceV, ce1]; cases sameK j k <;> simp only []; cases ieq x y <;> rfl
  | 1, .bool a, .bool b => simp only [ceV, ce1]; cases beqB a b <;> rfl
  | 2, .str a x, .str b y => simp only [ceV, ce1]; cases (Nat.beq a b && Nat.beq x y) <;> rfl
  | 0, .unk, _ | 0, .bool _, _ | 0, .str _ _, _ | 0, .nilp, _ | 0, .ptr _ _, _ | 0, .nils, _ | 0, .sl _ _ _ _ _, _ | 0, .fn _ _, _ | 0, .bf _ _, _ | 0, .nilf, _ | 0, .ifc _ _, _ | 0, .nili, _ | 0, .agg _, _ | 0, .tup _, _ | 0, .mp _, _ | 0, .nilm, _ | 0, .var _, _ | 0, .fld _ _, _ | 0, .sy _ _, _ => rfl
  | 1, .unk, _ | 1, .int _ _, _ | 1, .str _ _, _ | 1, .nilp, _ | 1, .ptr _ _, _ | 1, .nils, _ | 1, .sl _ _ _ _ _, _ | 1, .fn _ _, _ | 1, .bf _ _, _ | 1, .nilf, _ | 1, .ifc _ _, _ | 1, .nili, _ | 1, .agg _, _ | 1, .tup _, _ | 1, .mp _, _ | 1, .nilm, _ | 1, .var _, _ | 1, .fld _ _, _ | 1, .sy _ _, _ => rfl
  | 2, .unk, _ | 2, .int _ _, _ | 2, .bool _, _ | 2, .nilp, _ | 2, .ptr _ _, _ | 2, .nils, _ | 2, .sl _ _ _ _ _, _ | 2, .fn _ _, _ | 2, .bf _ _, _ | 2, .nilf, _ | 2, .ifc _ _, _ | 2, .nili, _ | 2, .agg _, _ | 2, .tup _, _ | 2, .mp _, _ | 2, .nilm, _ | 2, .var _, _ | 2, .fld _ _, _ | 2, .sy _ _, _ => rfl
  | 0, .int _ _, .unk | 0, .int _ _, .bool _ | 0, .int _ _, .str _ _ | 0, .int _ _, .nilp | 0, .int _ _, .ptr _ _ | 0, .int _ _, .nils | 0, .int _ _, .sl _ _ _ _ _ | 0, .int _ _, .fn _ _ | 0, .int _ _, .bf _ _ | 0, .int _ _, .nilf | 0, .int _ _, .ifc _ _ | 0, .int _ _, .nili | 0, .int _ _, .agg _ | 0, .int _ _, .tup _ | 0, .int _ _, .mp _ | 0, .int _ _, .nilm | 0, .int _ _, .var _ | 0, .int _ _, .fld _ _ | 0, .int _ _, .sy _ _ => rfl
  | 1, .bool _, .unk | 1, .bool _, .int _ _ | 1, .bool _, .str _ _ | 1, .bool _, .nilp | 1, .bool _, .ptr _ _ | 1, .bool _, .nils | 1, .bool _, .sl _ _ _ _ _ | 1, .bool _, .fn _ _ | 1, .bool _, .bf _ _ | 1, .bool _, .nilf | 1, .bool _, .ifc _ _ | 1, .bool _, .nili | 1, .bool _, .agg _ | 1, .bool _, .tup _ | 1, .bool _, .mp _ | 1, .bool _, .nilm | 1, .bool _, .var _ | 1, .bool _, .fld _ _ | 1, .bool _, .sy _ _ => rfl
  | 2, .str _ _, .unk | 2, .str _ _, .int _ _ | 2, .str _ _, .bool _ | 2, .str _ _, .nilp | 2, .str _ _, .ptr _ _ | 2, .str _ _, .nils | 2, .str _ _, .sl _ _ _ _ _ | 2, .str _ _, .fn _ _ | 2, .str _ _, .bf _ _ | 2, .str _ _, .nilf | 2, .str _ _, .ifc _ _ | 2, .str _ _, .nili | 2, .str _ _, .agg _ | 2, .str _ _, .tup _ | 2, .str _ _, .mp _ | 2, .str _ _, .nilm | 2, .str _ _, .var _ | 2, .str _ _, .fld _ _ | 2, .str _ _, .sy _ _ => rfl
  | _ + 3, _, _ => rfl

section
variable {Pr : Program} {j : J}
theorem ce1_sim {v w : DV} {v' w' : Value} {k : Nat} {b : Bool} (hv : VR j v v') (hw : VR j w w') (h : ce1 k v w = some b) (d t : Nat) (ht : flat3 Pr t k = true) (W : World) :
    (Op.equalIn (d + 1) t v' w').run Pr W = .ok b W := by
  unfold flat3 at ht
  cases hu : Pr.underlying t with
  | none => simp [hu] at ht
  | some dd =>
    match k, v, w, h with
    | 0, .int i x, .int i' y, h =>
      rw [hv.int_inv, hw.int_inv]
      simp only [ce1] at h
      cases hs : sameK i i' with
      | false => rw [hs] at h; cases h
      | true =>
        rw [hs] at h; simp only [Option.some.injEq] at h
        have := sameK_eq hs; subst this
        cases dd <;> simp [hu] at ht
        rw [run_equalIn_int W d t _ _ x y hu, ← h, ieq_eq]; rfl
    | 1, .bool x, .bool y, h =>
      rw [hv.bool_inv, hw.bool_inv]
      simp only [ce1, Option.some.injEq] at h
      cases dd <;> simp [hu] at ht
      rw [run_equalIn_bool' W d t x y hu, ← h, beqB_eq]
    | 2, .str n c, .str m c', h =>
      obtain ⟨s, rfl, h1, h2⟩ := hv.str_inv
      obtain ⟨s', rfl, h3, h4⟩ := hw.str_inv
      simp only [ce1, Option.some.injEq] at h
      cases dd <;> simp [hu] at ht
      rw [run_equalIn_string W d t s s' hu, str_eq, h1, h2, h3, h4, h]
theorem ces_sim (xs ys : Array Value) (d : Nat) (W : World) : ∀ (fs : List Field) (n : Nat) (ks : List Nat) (l m : List DV) (b : Bool), flatFields3 Pr fs n ks = true →
    VRs j l (xs.toList.drop n) → VRs j m (ys.toList.drop n) → ceV ks l m = some b → (Op.eqFields (d + 1) xs ys fs).run Pr W = .ok b W
  | [], n, [], l, m, b, _, hl, hm, h => by
    cases l <;> cases m <;> simp [ceV] at h
    subst h; rfl
  | [], _, _ :: _, _, _, _, hf, _, _, _ => by simp [flatFields3] at hf
  | _ :: _, _, [], _, _, _, hf, _, _, _ => by simp [flatFields3] at hf
  | f :: fs, n, k :: ks, l, m, b, hf, hl, hm, h => by
    simp only [flatFields3, Bool.and_eq_true, Bool.not_eq_true', Nat.beq_eq] at hf
    obtain ⟨⟨⟨hname, hoff⟩, hflat⟩, hrest⟩ := hf
    cases l with
    | nil => simp [ceV] at h
    | cons v l =>
      cases m with
      | nil => simp [ceV] at h
      | cons w m =>
        obtain ⟨v', hv', hv, _⟩ := hl.get 0 v rfl
        obtain ⟨w', hw', hw, _⟩ := hm.get 0 w rfl
        have hl' : VRs j l (xs.toList.drop (n + 1)) := by have := hl.drop 1; simpa using this
        have hm' : VRs j m (ys.toList.drop (n + 1)) := by have := hm.drop 1; simpa using this
        have hagg : ∀ W : World, (isAgg f.type).run Pr W = .ok false W := by
          intro W
          unfold flat3 at hflat
          cases hu : Pr.underlying f.type with
          | none => simp [hu] at hflat
          | some dd => exact run_isAgg_plain hu (by cases dd <;> simp [hu] at hflat <;> rfl) W
        have hx : (part f.type xs f.offset).run Pr W = .ok v' W := by
          simp only [List.getElem?_drop, Nat.add_zero, Array.getElem?_toList] at hv'
          simp [part, hagg, hoff, hv']
        have hy : (part f.type ys f.offset).run Pr W = .ok w' W := by
          simp only [List.getElem?_drop, Nat.add_zero, Array.getElem?_toList] at hw'
          simp [part, hagg, hoff, hw']
        have hne : f.name ≠ "_" := by simpa using hname
        rw [ceV_cons] at h
        simp only [Op.eqFields, if_pos hne, Sem.run_bind, hx, hy, Result.andThen_ok]
        cases h1 : ce1 k v w with
        | none => simp [h1] at h
        | some c =>
          rw [ce1_sim hv hw h1 d f.type hflat W]
          cases c with
          | false =>
            simp only [h1] at h
            cases hr : ceV ks l m with
            | none => simp [hr] at h
            | some r => simp [hr] at h; subst h; simp
          | true => simp only [h1] at h; simp; exact ces_sim xs ys d W fs (n + 1) ks l m b hrest hl' hm' h

theorem VRt.two {a b : DV} {l' : List Value} (h : VRt j [a, b] l') : ∃ a' b', l' = [a', b'] ∧ VR j a a' ∧ VR j b b' := by
  cases h with | cons ha t => cases t with | cons hb t => cases t; exact ⟨_, _, rfl, ha, hb⟩
end

theorem str_extract {s : ByteArray} {n c lo hi : Nat} (h1 : s.data.size = n) (h2 : codeB s.data.toList = c) (hlo : lo ≤ hi) (hhi : hi ≤ n) :
    (s.extract lo hi).data.size = hi - lo ∧ codeB (s.extract lo hi).data.toList = c / 256 ^ lo % 256 ^ (hi - lo) := by
  have hd : (s.extract lo hi).data.toList = (s.data.toList.drop lo).take (hi - lo) := by
    rw [ByteArray.data_extract, Array.toList_extract]
  refine ⟨?_, ?_⟩
  · rw [← Array.length_toList, hd, List.length_take, List.length_drop, Array.length_toList, h1]; omega
  · rw [hd, ← codeB_mod, ← codeB_div, h2]
theorem run_str_slice {Pr : Program} {t : Nat} (hu : Pr.underlying t = some .string) {s : ByteArray} {xl xh : Option Value} {l h : Nat} (w : World)
    (hb : (Instr.sliceBounds false s.size s.size xl xh none).run Pr w = .ok (l, h, s.size) w) : (Instr.sliceAt t (.string s) xl xh none).run Pr w = .ok (.string (s.extract l h)) w := by
  simp only [Instr.sliceAt, Sem.run_bind, run_underlying hu, Result.andThen_ok, Instr.slice, hb, Sem.run_pure, Option.isSome_none, Bool.false_eq_true, if_false]
theorem run_bound {Pr : Program} (w : World) {k : IntKind} {i y : Nat} (code : BoundsCode) (h1 : i ≤ y) : (Instr.sliceBound (.int k (i : Int)) y code).run Pr w = .ok i w := by
  have : (0 : Int) ≤ (i : Int) ∧ (i : Int) ≤ (y : Int) := ⟨by omega, by omega⟩
  simp only [Instr.sliceBound, asIntOf, Sem.run_bind, Sem.run_pure, Result.andThen_ok, Sem.run_ite, if_pos this, Int.toNat_natCast]
theorem com_bits (k : IntKind) (x : Int) : (BitVec.ofInt k.bits (if k.signed then -1 else k.max) ^^^ BitVec.ofInt k.bits x).toNat = 2 ^ bitsK k - 1 - twB k x := by
  rw [bits_sub]
  have : BitVec.ofInt k.bits (if k.signed then -1 else k.max) = BitVec.allOnes k.bits := by cases k <;> rfl
  rw [this, BitVec.allOnes_xor]

set_option maxHeartbeats 4000000 in
theorem px_sim {Pr : Program} {j : J} {pv : P → Option Nat} {e : Env} {ρ : Operand → Value} {p : Px} {ds : List Opd} {o : Oper} {v : DV} (hv : pxV p (ds.map fun o => ov o e) = some v)
    (hc : chkPx Pr p ds o.op = true) (hr : Reads j pv e ρ) (hk : ∀ v, ρ (.const v) = v) (w : World) : ∃ v', (execOp ρ o).run Pr w = .ok (.value v') w ∧ VR j v v' := by
  obtain ⟨dst, op, ty, pos, after, guard⟩ := o
  replace hc : chkPx Pr p ds op = true := hc
  unfold chkPx at hc
  split at hc
  case h_1 =>
    rename_i d x t
    simp only [Bool.and_eq_true] at hc
    have hx := hr.ov hc.1
    have hu := isStr_spec hc.2
    simp only [List.map] at hv
    generalize ov d e = a at hv hx
    cases a <;> simp only [pxV, reduceCtorEq, Option.some.injEq] at hv
    subst hv
    obtain ⟨s, hs, h1, h2⟩ := hx.str_inv
    subst h1
    exact ⟨_, by simp [execOp, resolve, invoke, builtin, Builtin.len_, hs, run_underlying hu]; rfl, VR.int _ _⟩
  case h_2 =>
    rename_i d d' t x i
    simp only [Bool.and_eq_true] at hc
    have hx := hr.ov hc.1.1
    have hi := hr.ov hc.1.2
    have hu := isStr_spec hc.2
    simp only [List.map] at hv
    generalize ov d e = a at hv hx
    generalize ov d' e = b at hv hi
    cases a <;> simp only [pxV, reduceCtorEq] at hv
    cases b <;> simp only [pxV, reduceCtorEq] at hv
    rename_i n c k i'
    cases hn : natV i' with
    | none => simp [hn] at hv
    | some q =>
      simp only [hn] at hv
      cases hb : Nat.ble (q + 1) n with
      | false => simp [hb] at hv
      | true =>
        simp only [hb, Option.some.injEq] at hv
        subst hv
        have hi' := natV_spec hn
        subst hi'
        obtain ⟨s, hs, h1, h2⟩ := hx.str_inv
        have hi := hi.int_inv
        have hq : q < s.data.size := by rw [h1]; exact Nat.le_of_ble_eq_true hb
        have hg := codeB_get (l := s.data.toList) (i := q) (b := s.data[q]) (by simp [hq])
        rw [h2] at hg
        refine ⟨.int .u8 (.ofNat (c / 256 ^ q % 256)), ?_, VR.int _ _⟩
        rw [← hg]
        simp [execOp, hs, hi, Instr.index, asIntOf, run_underlying hu, str_get hq]
  case h_3 =>
    rename_i d t x
    simp only [Bool.and_eq_true] at hc
    have hx := hr.ov hc.1
    have hu := isStr_spec hc.2
    simp only [List.map] at hv
    generalize ov d e = a at hv hx
    cases a <;> simp only [pxV, reduceCtorEq, Option.some.injEq] at hv
    subst hv
    obtain ⟨s, hs, h1, h2⟩ := hx.str_inv
    have E := str_extract (lo := 0) (hi := s.size) h1 h2 (Nat.zero_le _) (Nat.le_of_eq h1)
    have hlt := codeB_lt s.data.toList
    refine ⟨.string (s.extract 0 s.size), ?_, VR.str (by rw [E.1]; exact h1) ?_⟩
    · have hb : (Instr.sliceBounds false s.size s.size none none none).run Pr w = .ok (0, s.size, s.size) w := by simp [Instr.sliceBounds]
      simp only [execOp, hs, Option.map_none, Sem.run_bind, run_str_slice hu w hb, Result.andThen_ok, Sem.run_pure]
    · rw [E.2, Nat.pow_zero, Nat.div_one, Nat.sub_zero, Nat.mod_eq_of_lt]
      rw [h2] at hlt; rw [Array.length_toList] at hlt; exact hlt
  case h_4 =>
    rename_i d d1 t x l
    simp only [Bool.and_eq_true] at hc
    have hx := hr.ov hc.1.1
    have hi := hr.ov hc.1.2
    have hu := isStr_spec hc.2
    simp only [List.map] at hv
    generalize ov d e = a at hv hx
    generalize ov d1 e = b at hv hi
    cases a <;> simp only [pxV, reduceCtorEq] at hv
    cases b <;> simp only [pxV, reduceCtorEq] at hv
    rename_i n c k i'
    cases hn : natV i' with
    | none => simp [hn] at hv
    | some lo =>
      simp only [hn] at hv
      cases hb : Nat.ble lo n with
      | false => simp [hb] at hv
      | true =>
        simp only [hb, Option.some.injEq] at hv
        subst hv
        have hi' := natV_spec hn
        subst hi'
        obtain ⟨s, hs, h1, h2⟩ := hx.str_inv
        have hi := hi.int_inv
        have hq : lo ≤ s.size := by show lo ≤ s.data.size; rw [h1]; exact Nat.le_of_ble_eq_true hb
        have E := str_extract (lo := lo) (hi := s.size) h1 h2 hq (Nat.le_of_eq h1)
        have hsz : s.size = n := h1
        have hlt : codeB (s.data.toList.drop lo) < 256 ^ (n - lo) := by
          have := codeB_lt (s.data.toList.drop lo)
          rwa [List.length_drop, Array.length_toList, h1] at this
        refine ⟨.string (s.extract lo s.size), ?_, VR.str (by rw [E.1, hsz]) ?_⟩
        · have hb : (Instr.sliceBounds false s.size s.size (some (.int k (lo : Int))) none none).run Pr w = .ok (lo, s.size, s.size) w := by
            simp [Instr.sliceBounds, run_bound w _ hq]
          simp only [execOp, hs, hi, Option.map_none, Option.map_some, Sem.run_bind, run_str_slice hu w hb, Result.andThen_ok, Sem.run_pure]
        · rw [E.2, hsz, Nat.mod_eq_of_lt]
          rw [← h2, codeB_div]; exact hlt
  case h_5 =>
    rename_i d d1 t x l
    simp only [Bool.and_eq_true] at hc
    have hx := hr.ov hc.1.1
    have hi := hr.ov hc.1.2
    have hu := isStr_spec hc.2
    simp only [List.map] at hv
    generalize ov d e = a at hv hx
    generalize ov d1 e = b at hv hi
    cases a <;> simp only [pxV, reduceCtorEq] at hv
    cases b <;> simp only [pxV, reduceCtorEq] at hv
    rename_i n c k i'
    cases hn : natV i' with
    | none => simp [hn] at hv
    | some hh =>
      simp only [hn] at hv
      cases hb : Nat.ble hh n with
      | false => simp [hb] at hv
      | true =>
        simp only [hb, Option.some.injEq] at hv
        subst hv
        have hi' := natV_spec hn
        subst hi'
        obtain ⟨s, hs, h1, h2⟩ := hx.str_inv
        have hi := hi.int_inv
        have hq' : hh ≤ n := Nat.le_of_ble_eq_true hb
        have hq : hh ≤ s.size := by show hh ≤ s.data.size; rw [h1]; exact hq'
        have E := str_extract (lo := 0) (hi := hh) h1 h2 (Nat.zero_le _) hq'
        refine ⟨.string (s.extract 0 hh), ?_, VR.str (by rw [E.1, Nat.sub_zero]) (by rw [E.2, Nat.pow_zero, Nat.div_one, Nat.sub_zero])⟩
        have hb : (Instr.sliceBounds false s.size s.size none (some (.int k (hh : Int))) none).run Pr w = .ok (0, hh, s.size) w := by
          simp [Instr.sliceBounds, run_bound w _ hq]
        simp only [execOp, hs, hi, Option.map_none, Option.map_some, Sem.run_bind, run_str_slice hu w hb, Result.andThen_ok, Sem.run_pure]
  case h_6 =>
    rename_i d d1 d2 t x l h
    simp only [Bool.and_eq_true] at hc
    have hx := hr.ov hc.1.1.1
    have hi := hr.ov hc.1.1.2
    have hj := hr.ov hc.1.2
    have hu := isStr_spec hc.2
    simp only [List.map] at hv
    generalize ov d e = a at hv hx
    generalize ov d1 e = b at hv hi
    generalize ov d2 e = b2 at hv hj
    cases a <;> simp only [pxV, reduceCtorEq] at hv
    cases b <;> cases b2 <;> simp only [pxV, reduceCtorEq] at hv
    rename_i n c k i' k' i2
    cases hn : natV i' with
    | none => simp [hn] at hv
    | some lo =>
      cases hn2 : natV i2 with
      | none => simp [hn, hn2] at hv
      | some hh =>
        simp only [hn, hn2] at hv
        cases hb : (Nat.ble hh n && Nat.ble lo hh) with
        | false => simp [hb] at hv
        | true =>
          simp only [hb, Option.some.injEq] at hv
          subst hv
          have e1 := natV_spec hn
          have e2 := natV_spec hn2
          subst e1 e2
          simp only [Bool.and_eq_true, Nat.ble_eq] at hb
          obtain ⟨s, hs, h1, h2⟩ := hx.str_inv
          have hi := hi.int_inv
          have hj := hj.int_inv
          have hq : hh ≤ s.size := by show hh ≤ s.data.size; rw [h1]; exact hb.1
          have E := str_extract (lo := lo) (hi := hh) h1 h2 hb.2 hb.1
          refine ⟨.string (s.extract lo hh), ?_, VR.str E.1 E.2⟩
          have hb : (Instr.sliceBounds false s.size s.size (some (.int k (lo : Int))) (some (.int k' (hh : Int))) none).run Pr w = .ok (lo, hh, s.size) w := by
            simp [Instr.sliceBounds, run_bound w _ hq, run_bound w _ hb.2]
          simp only [execOp, hs, hi, hj, Option.map_none, Option.map_some, Sem.run_bind, run_str_slice hu w hb, Result.andThen_ok, Sem.run_pure]
  case h_7 =>
    rename_i neg d d' op t x y yt
    simp only [Bool.and_eq_true] at hc
    have hx := hr.ov hc.1.1.2
    have hy := hr.ov hc.1.2
    simp only [List.map] at hv
    generalize ov d e = a at hv hx
    generalize ov d' e = b at hv hy
    cases a <;> simp only [pxV, reduceCtorEq] at hv
    cases b <;> simp only [pxV, reduceCtorEq, Option.some.injEq] at hv
    subst hv
    obtain ⟨s, hs, h1, h2⟩ := hx.str_inv
    obtain ⟨s', hs', h3, h4⟩ := hy.str_inv
    rw [xb_eq, ← h1, ← h2, ← h3, ← h4, ← str_eq]
    have hg := hc.1.1.1
    cases neg <;> cases op <;> simp only [negOp, Bool.false_eq_true] at hg
    · exact ⟨_, by simp [execOp, hs, hs', eqGuard, binOp, Op.stringOp], VR.bool _⟩
    · exact ⟨_, by simp [execOp, hs, hs', eqGuard, binOp, Op.stringOp], VR.bool _⟩
  case h_8 =>
    rename_i d d' t x y yt
    simp only [Bool.and_eq_true] at hc
    have hx := hr.ov hc.1.1
    have hy := hr.ov hc.1.2
    simp only [List.map] at hv
    generalize ov d e = a at hv hx
    generalize ov d' e = b at hv hy
    cases a <;> simp only [pxV, reduceCtorEq] at hv
    cases b <;> simp only [pxV, reduceCtorEq, Option.some.injEq] at hv
    subst hv
    obtain ⟨s, hs, h1, h2⟩ := hx.str_inv
    obtain ⟨s', hs', h3, h4⟩ := hy.str_inv
    have := ltB_eq (s.data.toList.length + s'.data.toList.length) s.data.toList s'.data.toList (Nat.le_refl _)
    rw [Array.length_toList, Array.length_toList, h1, h2, h3, h4] at this
    rw [this]
    exact ⟨_, by simp [execOp, hs, hs', eqGuard, binOp, Op.stringOp, toList_data], VR.bool _⟩
  case h_9 =>
    rename_i d d' t x y yt
    simp only [Bool.and_eq_true] at hc
    have hx := hr.ov hc.1.1
    have hy := hr.ov hc.1.2
    simp only [List.map] at hv
    generalize ov d e = a at hv hx
    generalize ov d' e = b at hv hy
    cases a <;> simp only [pxV, reduceCtorEq] at hv
    cases b <;> simp only [pxV, reduceCtorEq] at hv
    rename_i n c m c'
    cases hb : Nat.ble (n + m) 1000000 with
    | false => simp [hb] at hv
    | true =>
      simp only [hb, Option.some.injEq] at hv
      subst hv
      rw [Nat.ble_eq] at hb
      obtain ⟨s, hs, h1, h2⟩ := hx.str_inv
      obtain ⟨s', hs', h3, h4⟩ := hy.str_inv
      have hsz : s.size = n := h1
      have hsz' : s'.size = m := h3
      have hd : (s ++ s').data.toList = s.data.toList ++ s'.data.toList := by rw [ByteArray.data_append, Array.toList_append]
      refine ⟨.string (s ++ s'), ?_, VR.str ?_ ?_⟩
      · have hle' : (s.size : Int) + (s'.size : Int) ≤ 9223372036854775807 := by rw [hsz, hsz']; omega
        simp [execOp, hs, hs', eqGuard, binOp, Op.stringOp, hle']
      · rw [← Array.length_toList, hd, List.length_append, Array.length_toList, Array.length_toList, h1, h3]
      · rw [hd, codeB_append, Array.length_toList, h1, h2, h4]
  case h_10 =>
    rename_i d d' t x y yt
    simp only [Bool.and_eq_true] at hc
    have hx := hr.ov hc.1.1
    have hy := hr.ov hc.1.2
    simp only [List.map] at hv
    generalize ov d e = a at hv hx
    generalize ov d' e = b at hv hy
    cases a <;> simp only [pxV, reduceCtorEq] at hv
    cases b <;> simp only [pxV, reduceCtorEq] at hv
    rename_i k n k' m
    cases hs : sameK k k' with
    | false => simp [hs] at hv
    | true =>
      simp only [hs, Option.some.injEq] at hv
      have := sameK_eq hs
      subst this
      subst hv
      have hx := hx.int_inv
      have hy := hy.int_inv
      refine ⟨_, ?_, VR.int _ _⟩
      rw [twB_eq, twB_eq, ← BitVec.toNat_and]
      simp [execOp, hx, hy, eqGuard, binOp, Op.intBits]
  case h_11 =>
    rename_i d d' t x y yt
    simp only [Bool.and_eq_true] at hc
    have hx := hr.ov hc.1.1
    have hy := hr.ov hc.1.2
    simp only [List.map] at hv
    generalize ov d e = a at hv hx
    generalize ov d' e = b at hv hy
    cases a <;> simp only [pxV, reduceCtorEq] at hv
    cases b <;> simp only [pxV, reduceCtorEq] at hv
    rename_i k n k' m
    cases hs : sameK k k' with
    | false => simp [hs] at hv
    | true =>
      simp only [hs, Option.some.injEq] at hv
      have := sameK_eq hs
      subst this
      subst hv
      have hx := hx.int_inv
      have hy := hy.int_inv
      refine ⟨_, ?_, VR.int _ _⟩
      rw [twB_eq, twB_eq, ← BitVec.toNat_or]
      simp [execOp, hx, hy, eqGuard, binOp, Op.intBits]
  case h_12 =>
    rename_i d d' t x y yt
    simp only [Bool.and_eq_true] at hc
    have hx := hr.ov hc.1.1
    have hy := hr.ov hc.1.2
    simp only [List.map] at hv
    generalize ov d e = a at hv hx
    generalize ov d' e = b at hv hy
    cases a <;> simp only [pxV, reduceCtorEq] at hv
    cases b <;> simp only [pxV, reduceCtorEq] at hv
    rename_i k n k' m
    cases hs : sameK k k' with
    | false => simp [hs] at hv
    | true =>
      simp only [hs, Option.some.injEq] at hv
      have := sameK_eq hs
      subst this
      subst hv
      have hx := hx.int_inv
      have hy := hy.int_inv
      refine ⟨_, ?_, VR.int _ _⟩
      rw [twB_eq, twB_eq, ← BitVec.toNat_xor]
      simp [execOp, hx, hy, eqGuard, binOp, Op.intBits]
  case h_13 =>
    rename_i d d' t x y yt
    simp only [Bool.and_eq_true] at hc
    have hx := hr.ov hc.1.1
    have hy := hr.ov hc.1.2
    simp only [List.map] at hv
    generalize ov d e = a at hv hx
    generalize ov d' e = b at hv hy
    cases a <;> simp only [pxV, reduceCtorEq] at hv
    cases b <;> simp only [pxV, reduceCtorEq] at hv
    rename_i k n k' m
    cases hs : sameK k k' with
    | false => simp [hs] at hv
    | true =>
      simp only [hs, Option.some.injEq] at hv
      have := sameK_eq hs
      subst this
      subst hv
      have hx := hx.int_inv
      have hy := hy.int_inv
      refine ⟨_, ?_, VR.int _ _⟩
      rw [bits_sub, twB_eq, ← BitVec.toNat_and]
      simp [execOp, hx, hy, eqGuard, binOp, Op.intBits]
  case h_14 =>
    rename_i d d' t x y yt
    simp only [Bool.and_eq_true] at hc
    have hx := hr.ov hc.1.1
    have hy := hr.ov hc.1.2
    simp only [List.map] at hv
    generalize ov d e = a at hv hx
    generalize ov d' e = b at hv hy
    cases a <;> simp only [pxV, reduceCtorEq] at hv
    cases b <;> simp only [pxV, reduceCtorEq] at hv
    rename_i k n k' m
    cases hn : natV m with
    | none => simp [hn] at hv
    | some q =>
      simp only [hn] at hv
      cases hb : Nat.ble q (bitsK k) with
      | false => simp [hb] at hv
      | true =>
        simp only [hb, Option.some.injEq] at hv
        have e1 := natV_spec hn
        subst e1
        subst hv
        rw [Nat.ble_eq, bitsK_eq] at hb
        have hx := hx.int_inv
        have hy := hy.int_inv
        refine ⟨_, ?_, VR.int _ _⟩
        rw [imul_eq]
        have hneg : ¬ (q : Int) < 0 := by omega
        simp [execOp, hx, hy, eqGuard, binOp, Op.shift, hneg, Nat.min_eq_left hb]
  case h_15 =>
    rename_i d t x
    simp only [Bool.and_eq_true] at hc
    have hx := hr.ov hc.1
    simp only [List.map] at hv
    generalize ov d e = a at hv hx
    cases a <;> simp only [pxV, reduceCtorEq, Option.some.injEq] at hv
    rename_i k n
    subst hv
    have hx := hx.int_inv
    refine ⟨_, ?_, VR.int _ _⟩
    rw [← com_bits]
    simp [execOp, hx, Op.unary, Op.intBits]
  case h_16 =>
    rename_i u d t x
    simp only [Bool.and_eq_true, Nat.beq_eq] at hc
    obtain ⟨⟨rfl, h1⟩, h2⟩ := hc
    have hx := hr.ov h1
    simp only [List.map, pxV, Option.some.injEq] at hv
    subst hv
    refine ⟨.iface u (ρ x), ?_, VR.ifc hx⟩
    unfold notIfc at h2
    cases hu : Pr.underlying u with
    | none => simp [hu] at h2
    | some dt =>
      cases dt <;> simp [hu] at h2 <;> simp [execOp, Instr.makeInterface, run_underlying hu]
  case h_17 =>
    rename_i neg d op t x y yt
    simp only [Bool.and_eq_true, Bool.or_eq_true] at hc
    obtain ⟨⟨hg, hi⟩, hor⟩ := hc
    unfold isIfc at hi
    simp only [List.map] at hv
    cases hu : Pr.underlying t with
    | none => simp [hu] at hi
    | some dt =>
      cases dt <;> simp [hu] at hi
      have nil_of : ∀ z, isNilI z = true → z = .const .nilIface := by
        intro z hz
        cases z <;> simp [isNilI] at hz
        rename_i v; cases v <;> simp [isNilI] at hz; rfl
      rcases hor with ⟨h1, h2⟩ | ⟨h1, h2⟩
      · have := nil_of _ h1; subst this
        have hx := hr.ov h2
        generalize ov d e = a at hv hx
        cases a <;> simp only [pxV, reduceCtorEq, Option.some.injEq] at hv <;> subst hv <;> rw [xb_eq]
        · obtain ⟨u, hx⟩ := hx.ifc_inv
          cases neg <;> cases op <;> simp only [negOp, Bool.false_eq_true] at hg <;>
            exact ⟨_, by simp [execOp, hk, hx, eqGuard, binOp, Op.equal, Op.maxDepth, run_ifc_nil hu 9999, run_nil_ifc hu 9999, run_nil_nil hu 9999], VR.bool _⟩
        · have hx := hx.nili_inv
          cases neg <;> cases op <;> simp only [negOp, Bool.false_eq_true] at hg <;>
            exact ⟨_, by simp [execOp, hk, hx, eqGuard, binOp, Op.equal, Op.maxDepth, run_ifc_nil hu 9999, run_nil_ifc hu 9999, run_nil_nil hu 9999], VR.bool _⟩
      · have := nil_of _ h1; subst this
        have hx := hr.ov h2
        generalize ov d e = a at hv hx
        cases a <;> simp only [pxV, reduceCtorEq, Option.some.injEq] at hv <;> subst hv <;> rw [xb_eq]
        · obtain ⟨u, hx⟩ := hx.ifc_inv
          cases neg <;> cases op <;> simp only [negOp, Bool.false_eq_true] at hg <;>
            exact ⟨_, by simp [execOp, hk, hx, eqGuard, binOp, Op.equal, Op.maxDepth, run_ifc_nil hu 9999, run_nil_ifc hu 9999, run_nil_nil hu 9999], VR.bool _⟩
        · have hx := hx.nili_inv
          cases neg <;> cases op <;> simp only [negOp, Bool.false_eq_true] at hg <;>
            exact ⟨_, by simp [execOp, hk, hx, eqGuard, binOp, Op.equal, Op.maxDepth, run_ifc_nil hu 9999, run_nil_ifc hu 9999, run_nil_nil hu 9999], VR.bool _⟩
  case h_18 =>
    rename_i ks neg d d' op t x y yt
    simp only [Bool.and_eq_true] at hc
    obtain ⟨⟨⟨hg, h1⟩, h2⟩, h3⟩ := hc
    have hx := hr.ov h1
    have hy := hr.ov h2
    simp only [List.map] at hv
    generalize ov d e = a at hv hx
    generalize ov d' e = b at hv hy
    cases a <;> simp only [pxV, reduceCtorEq] at hv
    cases b <;> simp only [pxV, reduceCtorEq] at hv
    rename_i l m
    cases hq : ceV ks l m with
    | none => simp [hq] at hv
    | some b =>
      simp only [hq, Option.some.injEq] at hv
      subst hv
      rw [xb_eq]
      obtain ⟨l', hx, hl⟩ := hx.agg_inv
      obtain ⟨m', hy, hm⟩ := hy.agg_inv
      refine ⟨.bool (neg != b), ?_, VR.bool _⟩
      unfold flatType3 at h3
      cases hu : Pr.underlying t with
      | none => simp [hu] at h3
      | some dt =>
        cases dt <;> simp only [hu, Bool.false_eq_true, Bool.and_eq_true, Bool.not_eq_true'] at h3
        rename_i fs
        obtain ⟨⟨hff, hsh⟩, hgt⟩ := h3
        have hfo : Pr.fieldsOf t = fs := by simp [Program.fieldsOf, hu]
        have hq2 : (Op.equalIn 10000 t (.agg l'.toArray) (.agg m'.toArray)).run Pr w = .ok b w := by
          rw [run_equalIn_struct w 9999 t _ _ (by rw [hfo, hu]) hsh, hfo]
          exact ces_sim l'.toArray m'.toArray 9998 w fs.toList 0 ks l m b hff (by simpa using hl) (by simpa using hm) hq
        cases neg <;> cases op <;> simp only [negOp, Bool.false_eq_true] at hg
        · simp only [execOp, hx, hy, Sem.run_bind, run_eqGuard_agg w _ _ _ _ _ _ hgt, Result.andThen_ok, run_eql_struct, hq2, Sem.run_pure]; cases b <;> rfl
        · simp only [execOp, hx, hy, Sem.run_bind, run_eqGuard_agg w _ _ _ _ _ _ hgt, Result.andThen_ok, run_neq_struct, hq2, Sem.run_pure]; cases b <;> rfl
  case h_19 =>
    rename_i len sz d d' t x y
    simp only [Bool.and_eq_true] at hc
    obtain ⟨⟨h1, h2⟩, h3⟩ := hc
    have hx := hr.ov h1
    have hy := hr.ov h2
    simp only [List.map] at hv
    generalize ov d e = a at hv hx
    generalize ov d' e = b at hv hy
    cases a <;> simp only [pxV, reduceCtorEq] at hv
    cases b <;> simp only [pxV, reduceCtorEq] at hv
    rename_i k o k' m
    cases hn : natV m with
    | none => simp [hn] at hv
    | some q =>
      simp only [hn] at hv
      cases hb : Nat.ble (q + 1) len with
      | false => simp [hb] at hv
      | true =>
        simp only [hb, Option.some.injEq] at hv
        have e1 := natV_spec hn
        subst e1
        subst hv
        have hy := hy.int_inv
        unfold arrPtr at h3
        cases hu : Pr.underlying t with
        | none => simp [hu] at h3
        | some dt =>
          cases dt <;> simp only [hu, Bool.false_eq_true, Bool.and_eq_true, Nat.beq_eq, Bool.not_eq_true'] at h3
          rename_i n0 el
          obtain ⟨⟨hn0, hs⟩, h0⟩ := h3
          subst hn0
          have hlt : q < n0 := Nat.le_of_ble_eq_true hb
          obtain ⟨it, hit, hsz⟩ := sizeIs_spec hs
          have hrun : ∀ a : Addr, ρ x = .pointer (some a) → (execOp ρ ⟨dst, .indexAddr t x y, ty, pos, after, guard⟩).run Pr w = .ok (.value (.pointer (some (a.add (q * sz))))) w := by
            intro a ha
            have hsz2 : (sizeOf el).run Pr w = .ok sz w := by simp [sizeOf, typeInfo, hit, hsz]
            have hc1 : (0 : Int) ≤ (q : Int) ∧ (q : Int) < (n0 : Int) := ⟨by omega, by omega⟩
            simp only [execOp, Instr.indexAt, asIntOf, hy, ha, Sem.run_bind, Sem.run_pure, Result.andThen_ok, run_underlying hu, Instr.sureAddr, Sem.run_ite, if_pos hc1, hsz2, Int.toNat_natCast]
          cases hx' : ρ x with
          | pointer ad =>
            rw [hx'] at hx
            cases hx with
            | ptrA hj => exact ⟨_, hrun _ hx', by rw [Addr.add_mid, Nat.add_assoc]; exact VR.ptrA hj⟩
            | ptrO hj => exact ⟨_, hrun _ hx', by rw [Addr.add_mid, Nat.add_assoc]; exact VR.ptrO hj⟩
            | ptrD a hj => exact ⟨_, hrun _ hx', VR.ptrD _ hj⟩
          | _ => rw [hx'] at hx; cases hx
  case h_20 => cases hc
end Go.Proofs.YtnoekfkfinjfgaaGreatDoor.Dx
