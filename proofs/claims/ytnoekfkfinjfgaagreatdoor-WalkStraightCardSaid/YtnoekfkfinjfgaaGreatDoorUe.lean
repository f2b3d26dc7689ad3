/- What the small machine's instructions that touch no memory give, as plain functions. No statement of this seat is proved here. -/
import Derived.Test.YtnoekfkfinjfgaaGreatDoorUd
set_option autoImplicit false
set_option linter.unusedSectionVars false
set_option linter.unusedSimpArgs false
set_option linter.unusedVariables false
noncomputable section
namespace Go.Proofs.YtnoekfkfinjfgaaGreatDoor.Dx
open Go
variable [Rho]

def binV (b : Bo) (j : IntKind) (x y : Int) : Option DV :=
  match b with
  | .add => some (.int j (j.wrap (x + y))) | .sub => some (.int j (j.wrap (x - y))) | .mul => some (.int j (j.wrap (x * y)))
  | .quo => if y = 0 then none else some (.int j (j.wrap (x.tdiv y)))
  | .rem => if y = 0 then none else some (.int j (x.tmod y))
  | .eq => some (.bool (decide (x = y))) | .ne => some (.bool (!decide (x = y))) | .lt => some (.bool (decide (x < y)))
  | .le => some (.bool (!decide (y < x))) | .gt => some (.bool (decide (y < x))) | .ge => some (.bool (!decide (x < y)))
theorem binK_eq (b : Bo) (j : IntKind) (x y : Int) (K : DV → Res) : binK b j x y K = match binV b j x y with | some v => K v | none => .fail := by
  have hq : ∀ A B : Res, (Bool.rec (motive := fun _ => Res) A B (ieq y (.ofNat (nat_lit 0)))) = if y = 0 then B else A := by
    intro A B
    have : ieq y (.ofNat (nat_lit 0)) = decide (y = 0) := ieq_eq y 0
    rw [this]
    by_cases h : y = 0
    · rw [if_pos h, decide_eq_true h]
    · rw [if_neg h, decide_eq_false h]
  cases b
  case add => show mkI _ _ _ = _; rw [mkI_eq, iadd_eq]; rfl
  case sub => show mkI _ _ _ = _; rw [mkI_eq, iadd_eq, ineg_eq]; rfl
  case mul => show mkI _ _ _ = _; rw [mkI_eq, imul_eq]; rfl
  case quo =>
    show Bool.rec (motive := fun _ => Res) (mkI j (idiv x y) K) .fail _ = _
    rw [hq, mkI_eq, idiv_eq]; simp only [binV]; split <;> rfl
  case rem =>
    show Bool.rec (motive := fun _ => Res) (mkI2 j (imod x y) K) .fail _ = _
    rw [hq]; unfold mkI2; rw [forceI_eq, imod_eq]; simp only [binV]; split <;> rfl
  case eq => show bl _ _ = _; rw [bl_eq, ieq_eq]; rfl
  case ne => show blN _ _ = _; rw [blN_eq, ieq_eq]; rfl
  case lt => show bl _ _ = _; rw [bl_eq, ilt_eq]; rfl
  case le => show blN _ _ = _; rw [blN_eq, ilt_eq]; rfl
  case gt => show bl _ _ = _; rw [bl_eq, ilt_eq]; rfl
  case ge => show blN _ _ = _; rw [blN_eq, ilt_eq]; rfl

def eq1V : Bool → DV → DV → Option Bool
  | false, .int k x, .int j y => if sameK k j then some (decide (x = y)) else none
  | true, .bool a, .bool b => some (a == b)
  | _, _, _ => none
theorem eq1_eq (k : Bool) (v w : DV) (F : Res) (K : Bool → Res) : eq1 k v w F K = match eq1V k v w with | some b => K b | none => F := by
  cases k with
  | true =>
    show asB v F (fun a => asB w F fun b => K (beqB a b)) = _
    rw [asB_eq]
    cases v <;> try rfl
    case bool a =>
      show asB w F (fun b => K (beqB a b)) = _
      rw [asB_eq]
      cases w <;> try rfl
      case bool b => cases a <;> cases b <;> rfl
  | false =>
    show asI v F (fun k x => asI w F fun j y => Bool.rec (motive := fun _ => Res) F (K (ieq x y)) (sameK k j)) = _
    rw [asI_eq]
    cases v <;> try rfl
    case int k x =>
      show asI w F (fun j y => Bool.rec (motive := fun _ => Res) F (K (ieq x y)) (sameK k j)) = _
      rw [asI_eq]
      cases w <;> try rfl
      case int j y =>
        show Bool.rec (motive := fun _ => Res) F (K (ieq x y)) (sameK k j) = _
        simp only [eq1V, ieq_eq]
        cases sameK k j <;> rfl
def eqsV : List Bool → List DV → List DV → Option Bool
  | [], [], [] => some true
  | k :: ks, v :: l, w :: m => match eq1V k v w with
    | some true => eqsV ks l m
    | some false => some false
    | none => none
  | _, _, _ => none
theorem eqsK_eq (ks : List Bool) : ∀ (l m : List DV) (F : Res) (K : Bool → Res), eqsK ks l m F K = match eqsV ks l m with | some b => K b | none => F := by
  induction ks with
  | nil => intro l m F K; cases l <;> cases m <;> rfl
  | cons k ks ih => intro l m F K; cases l with
    | nil => rfl
    | cons v l => cases m with
      | nil => rfl
      | cons w m =>
        show eq1 k v w F (fun b => Bool.rec (motive := fun _ => Res) (K false) (eqsK ks l m F K) b) = _
        rw [eq1_eq]; simp only [eqsV, ih]
        cases eq1V k v w with
        | none => rfl
        | some b => cases b <;> rfl
def nilV : DV → Option Bool
  | .nils => some true | .sl _ _ _ _ _ => some false | _ => none

def bdV (o : Option Opd) (d : Nat) (e : Env) (y : Nat) : Option Nat :=
  match o with
  | none => some d
  | some o => match ev o e with | .int _ x => if 0 ≤ x ∧ x.toNat ≤ y then some x.toNat else none | _ => none
theorem ble_if {α : Type} (a b : Nat) (A B : α) : (if Nat.ble a b = true then A else B) = if a ≤ b then A else B := by
  by_cases h : a ≤ b
  · rw [if_pos h, if_pos (Nat.ble_eq.mpr h)]
  · rw [if_neg h, if_neg (fun h' => h (Nat.ble_eq.mp h'))]
theorem bd_eq (o : Option Opd) (d : Nat) (e : Env) (y : Nat) (K : Nat → Res) : bd o d e y K = match bdV o d e y with | some n => K n | none => .fail := by
  cases o with
  | none => rfl
  | some o =>
    show asI (ev o e) .fail (fun _ x => natI x fun i => chk (Nat.ble i y) fun _ => K i) = _
    rw [asI_eq]; simp only [bdV]
    cases ev o e <;> try rfl
    case int k x =>
      show natI x (fun i => chk (Nat.ble i y) fun _ => K i) = _
      rw [natI_eq, chk_eq, ble_if]
      by_cases h1 : 0 ≤ x
      · by_cases h2 : x.toNat ≤ y
        · rw [if_pos h1, if_pos h2]; simp only [if_pos (And.intro h1 h2)]
        · rw [if_pos h1, if_neg h2]; simp only [if_neg (fun h : 0 ≤ x ∧ x.toNat ≤ y => h2 h.2)]
      · rw [if_neg h1]; simp only [if_neg (fun h : 0 ≤ x ∧ x.toNat ≤ y => h1 h.1)]
/-- 'x[lo:hi:mx]' of a slice. -/
def slaV (sz : Nat) (x : DV) (lo hi mx : Option Opd) (e : Env) : Option DV :=
  match x with
  | .sl b o n cp s =>
    if s = sz then
      match mx with
      | none => match bdV hi n e (capOf cp n) with
        | some h => match bdV lo 0 e h with
          | some l => some (.sl b (o + l * sz) (h - l) (match cp with | none => none | some c => some (c - l)) sz)
          | none => none
        | none => none
      | some m => match bdV (some m) 0 e (capOf cp n) with
        | some m => match bdV hi n e m with
          | some h => if h ≤ m then match bdV lo 0 e h with
            | some l => some (.sl b (o + l * sz) (h - l) (some (m - l)) sz)
            | none => none else none
          | none => none
        | none => none
    else none
  | .nils => match bdV hi 0 e 0 with
    | some _ => match bdV lo 0 e 0 with
      | some _ => match bdV mx 0 e 0 with
        | some _ => some .nils
        | none => none
      | none => none
    | none => none
  | _ => none
theorem beq_if {α : Type} (a b : Nat) (A B : α) : (if Nat.beq a b = true then A else B) = if a = b then A else B := by
  by_cases h : a = b
  · rw [if_pos h, if_pos (Nat.beq_eq.mpr h)]
  · rw [if_neg h, if_neg (fun h' => h (Nat.beq_eq.mp h'))]
theorem slEnd_eq (e : Env) (nx : P) (h : Hp) (k : Kv) (b : P) (o sz l hi : Nat) (c : Option Nat) : slEnd e nx h k b o sz l hi c = k e (.sl b (o + l * sz) (hi - l) c sz) nx h := by
  unfold slEnd; rw [forceN_eq, forceN_eq]; rfl
theorem iSla_eq (sz : Nat) (x : Opd) (lo hi mx : Option Opd) (F : Tr Fd) (ih : Ih) (wm : Option P) (e : Env) (nx : P) (h : Hp) (k : Kv) :
    iSla sz x lo hi mx F ih wm e nx h k = match slaV sz (ev x e) lo hi mx e with | some v => k e v nx h | none => .fail := by
  show asSl (ev x e) _ (slSl sz lo hi mx e nx h k) = _
  rw [asSl_eq, nilsK_eq]
  cases hx : ev x e <;> simp only [slaV] <;> try rfl
  case nils =>
    show bd hi (nat_lit 0) e (nat_lit 0) (fun _ => bd lo (nat_lit 0) e (nat_lit 0) fun _ => bd mx (nat_lit 0) e (nat_lit 0) fun _ => evK x e fun v => k e v nx h) = _
    rw [bd_eq]
    show (match bdV hi 0 e 0 with | some _ => _ | none => _) = _
    cases bdV hi 0 e 0 with
    | none => rfl
    | some a =>
      show bd lo (nat_lit 0) e (nat_lit 0) (fun _ => bd mx (nat_lit 0) e (nat_lit 0) fun _ => evK x e fun v => k e v nx h) = _
      rw [bd_eq]
      show (match bdV lo 0 e 0 with | some _ => _ | none => _) = _
      cases bdV lo 0 e 0 with
      | none => rfl
      | some a =>
        show bd mx (nat_lit 0) e (nat_lit 0) (fun _ => evK x e fun v => k e v nx h) = _
        rw [bd_eq]
        show (match bdV mx 0 e 0 with | some _ => _ | none => _) = _
        cases bdV mx 0 e 0 with
        | none => rfl
        | some a => show evK x e (fun v => k e v nx h) = _; rw [evK_eq, hx]
  case sl b o n cp s =>
    show slSl sz lo hi mx e nx h k b o n cp s = _
    unfold slSl
    rw [chk_eq, beq_if]
    by_cases hs : s = sz
    · rw [if_pos hs, if_pos hs]
      cases mx with
      | none =>
        show bd hi n e (capOf cp n) (fun hi => bd lo (nat_lit 0) e hi fun l => Option.rec (motive := fun _ => Res) (slEnd e nx h k b o sz l hi none) (fun c => forceN (Nat.sub c l) fun c => slEnd e nx h k b o sz l hi (some c)) cp) = _
        rw [bd_eq]
        cases h1 : bdV hi n e (capOf cp n) with
        | none => rfl
        | some hh =>
          simp only []
          rw [bd_eq, show bdV lo (nat_lit 0) e hh = bdV lo 0 e hh from rfl]
          cases h2 : bdV lo 0 e hh with
          | none => simp only [h2]
          | some l =>
            simp only [h2]
            cases cp with
            | none => exact slEnd_eq _ _ _ _ _ _ _ _ _ _
            | some c => show forceN (Nat.sub c l) _ = _; rw [forceN_eq, slEnd_eq]; rfl
      | some m =>
        show bd (some m) (nat_lit 0) e (capOf cp n) (fun m => bd hi n e m fun hi => chk (Nat.ble hi m) fun _ => bd lo (nat_lit 0) e hi fun l => forceN (Nat.sub m l) fun c => slEnd e nx h k b o sz l hi (some c)) = _
        rw [bd_eq, show bdV (some m) (nat_lit 0) e (capOf cp n) = bdV (some m) 0 e (capOf cp n) from rfl]
        cases h0 : bdV (some m) 0 e (capOf cp n) with
        | none => simp only [h0]
        | some mm =>
          simp only [h0]
          rw [bd_eq]
          cases h1 : bdV hi n e mm with
          | none => simp only [h1]
          | some hh =>
            simp only [h1]
            rw [chk_eq, ble_if]
            by_cases hm : hh ≤ mm
            · simp only [if_pos hm]
              rw [bd_eq, show bdV lo (nat_lit 0) e hh = bdV lo 0 e hh from rfl]
              cases h2 : bdV lo 0 e hh with
              | none => simp only [h2]
              | some l => simp only [h2]; rw [forceN_eq, slEnd_eq]; rfl
            · simp only [if_neg hm]
    · rw [if_neg hs, if_neg hs]

def lenV : DV → Option Nat
  | .sl _ _ n _ _ => some n
  | .nils => some 0
  | _ => none
def capV : DV → Option Nat
  | .sl _ _ _ (some c) _ => some c
  | .nils => some 0
  | _ => none
def foldV (f : Int → Int → Bool) (e : Env) : List Opd → IntKind → Int → Option (IntKind × Int)
  | [], k, x => some (k, x)
  | o :: l, k, x => match ev o e with
    | .int j y => if sameK k j then foldV f e l k (if f x y then y else x) else none
    | _ => none
def solidV : DV → Option DV
  | .unk => none | .nilp => none | .nilf => none | .nili => none | .var _ => none | v => some v
def iaV (sz : Nat) : DV → DV → Option DV
  | .sl b o n _ s, .int _ x => if s = sz ∧ 0 ≤ x ∧ x.toNat < n then some (.ptr b (o + x.toNat * sz)) else none
  | _, _ => none
def faV (o : Nat) : DV → Option DV
  | .ptr b i => some (.ptr b (i + o)) | .fld p i => some (.fld p (i + o)) | _ => none
def fiV (o : Nat) : DV → Option DV
  | .agg l => l[o]? | _ => none
def fiaV (o n : Nat) : DV → Option DV
  | .agg l => if o ≤ l.length ∧ n ≤ (l.drop o).length then some (.agg ((l.drop o).take n)) else none | _ => none
def exV (i : Nat) : DV → Option DV
  | .tup l => l[i]? | _ => none
def farV (b : Bo) (up : Bool) : Option DV := match b with | .lt => some (.bool up) | .le => some (.bool up) | .gt => some (.bool (!up)) | .ge => some (.bool (!up)) | _ => none
theorem farK_eq (b : Bo) (up : Bool) (K : DV → Res) : farK b up K = match farV b up with | some v => K v | none => .fail := by
  cases b <;> first | rfl | exact bl_eq _ _ | exact blN_eq _ _
def symCV (b : Bo) (y : Int) : Option DV := if 20001 ≤ y then farV b true else if y ≤ -20002 then farV b false else none
theorem symC_eq (b : Bo) (y : Int) (K : DV → Res) : symC b y K = match symCV b y with | some v => K v | none => .fail := by
  cases y with
  | ofNat n =>
    show chk (Nat.ble 20001 n) (fun _ => farK b true K) = _
    rw [chk_eq, ble_if, farK_eq]; unfold symCV
    by_cases h : 20001 ≤ n
    · rw [if_pos h, if_pos (show (20001 : Int) ≤ Int.ofNat n by simp; omega)]
    · rw [if_neg h, if_neg (show ¬ (20001 : Int) ≤ Int.ofNat n by simp; omega), if_neg (show ¬ Int.ofNat n ≤ -20002 by simp; omega)]
  | negSucc n =>
    show chk (Nat.ble 20001 n) (fun _ => farK b false K) = _
    rw [chk_eq, ble_if, farK_eq]; unfold symCV
    rw [if_neg (show ¬ (20001 : Int) ≤ Int.negSucc n by omega)]
    by_cases h : 20001 ≤ n
    · rw [if_pos h, if_pos (show Int.negSucc n ≤ -20002 by omega)]
    · rw [if_neg h, if_neg (show ¬ Int.negSucc n ≤ -20002 by omega)]
def symSV (b : Bo) : List (Nat × Nat) → List (Nat × Nat) → Option DV
  | p :: _, q :: _ => if isAdd b = true then (if p.2 = q.1 then some (.sy true [(p.1, q.2)]) else if q.2 = p.1 then some (.sy true [(q.1, p.2)]) else none)
      else if isEq b = true then (if p.1 = q.1 ∧ p.2 = q.2 then some (.bool true) else none) else none
  | _, _ => none
theorem boolR {α : Type} (b : Bool) (A B : α) : (Bool.rec (motive := fun _ => α) A B b) = if b = true then B else A := by cases b <;> rfl
theorem symS_eq (b : Bo) (t s : List (Nat × Nat)) (K : DV → Res) : symS b t s K = match symSV b t s with | some v => K v | none => .fail := by
  cases t with
  | nil => rfl
  | cons p t =>
    cases s with
    | nil => rfl
    | cons q s =>
      show Bool.rec (motive := fun _ => Res) (chk (isEq b) fun _ => symE p.1 p.2 q.1 q.2 K) (symA p.1 p.2 q.1 q.2 K) (isAdd b) = _
      unfold symSV symE symA
      simp only [boolR, chk_eq, beq_if]
      by_cases h1 : isAdd b = true
      · rw [if_pos h1, if_pos h1]
        by_cases h2 : p.2 = q.1
        · rw [if_pos h2, if_pos h2]
        · rw [if_neg h2, if_neg h2]
          by_cases h3 : q.2 = p.1
          · rw [if_pos h3, if_pos h3]
          · rw [if_neg h3, if_neg h3]
      · rw [if_neg h1, if_neg h1]
        by_cases h4 : isEq b = true
        · rw [if_pos h4, if_pos h4]
          by_cases h5 : p.1 = q.1
          · by_cases h6 : p.2 = q.2
            · rw [if_pos h5, if_pos h6, if_pos ⟨h5, h6⟩]
            · rw [if_pos h5, if_neg h6, if_neg (fun h => h6 h.2)]
          · rw [if_neg h5, if_neg (fun h => h5 h.1)]
        · rw [if_neg h4, if_neg h4]
def symV (b : Bo) (u : Bool) (t : List (Nat × Nat)) (w : DV) : Option DV :=
  if u = true then match w with
    | .int k y => if sameK .i64 k = true then symCV b y else none
    | .sy v s => if v = true then symSV b t s else none
    | _ => none
  else match w with
    | .int k y => if isRem b = true then if sameK .i64 k = true then if y = 1000 then some (.sy true t) else none else none else none
    | _ => none
theorem remS_eq (b : Bo) (u : Bool) (t : List (Nat × Nat)) (w : DV) (K : DV → Res) : remS b (.sy u t) w K = match symV b u t w with | some v => K v | none => .fail := by
  show Bool.rec (motive := fun _ => Res) (symR b t w K) (symT b t w K) u = _
  rw [boolR]
  unfold symV
  by_cases hu : u = true
  · rw [if_pos hu, if_pos hu]
    unfold symT
    rw [asI_eq, asSy_eq]
    cases w <;> try rfl
    case int k y =>
      simp only [chk_eq, symC_eq]
      by_cases h : sameK .i64 k = true
      · rw [if_pos h, if_pos h]
      · rw [if_neg h, if_neg h]
    case sy v s =>
      simp only [chk_eq, symS_eq]
      by_cases h : v = true
      · rw [if_pos h, if_pos h]
      · rw [if_neg h, if_neg h]
  · rw [if_neg hu, if_neg hu]
    unfold symR
    rw [asI_eq]
    cases w <;> try rfl
    case int k y =>
      simp only [chk_eq, ieq_eq, decide_eq_true_eq]
      by_cases h : isRem b = true
      · rw [if_pos h, if_pos h]
        by_cases h2 : sameK .i64 k = true
        · rw [if_pos h2, if_pos h2]
          by_cases h3 : y = 1000
          · rw [if_pos h3, if_pos (show y = Int.ofNat 1000 from h3)]
          · rw [if_neg h3, if_neg (show ¬ y = Int.ofNat 1000 from h3)]
        · rw [if_neg h2, if_neg h2]
      · rw [if_neg h, if_neg h]
def symZV (b : Bo) (j : IntKind) (x : Int) (u : Bool) (t : List (Nat × Nat)) : Option DV :=
  if u = true then if isAdd b = true then if sameK .i64 j = true then if x = 0 then some (.sy true t) else none else none else none else none
theorem symZ_eq (b : Bo) (j : IntKind) (x : Int) (u : Bool) (t : List (Nat × Nat)) (K : DV → Res) : symZ b (.sy u t) j x K = match symZV b j x u t with | some v => K v | none => .fail := by
  show chk u (fun _ => chk (isAdd b) fun _ => chk (sameK .i64 j) fun _ => chk (ieq x (.ofNat (nat_lit 0))) fun _ => K (.sy true t)) = _
  unfold symZV
  simp only [chk_eq, ieq_eq, decide_eq_true_eq]
  by_cases h1 : u = true
  · rw [if_pos h1, if_pos h1]
    by_cases h2 : isAdd b = true
    · rw [if_pos h2, if_pos h2]
      by_cases h3 : sameK .i64 j = true
      · rw [if_pos h3, if_pos h3]
        by_cases h4 : x = 0
        · rw [if_pos h4, if_pos (show x = Int.ofNat 0 from h4)]
        · rw [if_neg h4, if_neg (show ¬ x = Int.ofNat 0 from h4)]
      · rw [if_neg h3, if_neg h3]
    · rw [if_neg h2, if_neg h2]
  · rw [if_neg h1, if_neg h1]
/-- What an instruction gives that touches no memory. -/
def pureDV (i : Ins) (e : Env) : Option DV :=
  match i with
  | .mv a => some (ev a e)
  | .pick c a b => match ev c e with | .bool t => some (if t then ev a e else ev b e) | _ => none
  | .bld z ps => (fills e ps z).map .agg
  | .nc a => solidV (ev a e)
  | .bin b x y => match ev x e, ev y e with | .int j x, .int k y => if sameK j k then binV b j x y else none | .int j x, .sy u t => symZV b j x u t | .sy u t, w => symV b u t w | _, _ => none
  | .aeq ks neg x y => match ev x e, ev y e with | .agg a, .agg b => (eqsV ks a b).map fun t => .bool (neg != t) | _, _ => none
  | .beq neg x y => match ev x e, ev y e with | .bool a, .bool b => some (.bool (neg != (a == b))) | _, _ => none
  | .isnil neg x => (nilV (ev x e)).map fun t => .bool (neg != t)
  | .neg a => match ev a e with | .int j x => some (.int j (j.wrap (-x))) | _ => none
  | .shr x y => match ev x e, ev y e with | .int j a, .int _ n => if 0 ≤ n ∧ n.toNat ≤ j.bits then some (.int j (a.fdiv (2 ^ n.toNat))) else none | _, _ => none
  | .not a => match ev a e with | .bool b => some (.bool (!b)) | _ => none
  | .cv j a => match ev a e with | .int _ x => some (.int j (j.wrap x)) | _ => none
  | .mfn f cs => some (.fn f (cs.map fun o => ov o e))
  | .mbf f cs => some (.bf f (cs.map fun o => ov o e))
  | .fa o a => faV o (ev a e)
  | .fi o a => fiV o (ev a e)
  | .fia o n a => fiaV o n (ev a e)
  | .ia sz a i => iaV sz (ev a e) (ev i e)
  | .sla sz x lo hi mx => slaV sz (ev x e) lo hi mx e
  | .ex a i => exV i (ev a e)
  | .len a => (lenV (ev a e)).map fun (n : Nat) => DV.int .i64 (Int.ofNat n)
  | .cap a => (capV (ev a e)).map fun (n : Nat) => DV.int .i64 (Int.ofNat n)
  | .mx a l => match ev a e with | .int j x => (foldV (fun x y => ilt x y) e l j x).map fun y => .int y.1 y.2 | _ => none
  | .mn a l => match ev a e with | .int j x => (foldV (fun x y => ilt y x) e l j x).map fun y => .int y.1 y.2 | _ => none
  | .px p as => pxV p (as.map fun o => ov o e)
  | _ => none
def isPure : Ins → Bool
  | .mv _ | .pick .. | .bld .. | .nc _ | .bin .. | .aeq .. | .beq .. | .isnil .. | .neg _ | .not _ | .cv .. | .mfn .. | .mbf .. | .fa .. | .fi .. | .fia .. | .ia .. | .sla .. | .ex .. | .len _ | .cap _ | .mx .. | .mn .. | .shr .. | .px .. => true
  | _ => false

theorem brec_if (A B : Res) (t : Bool) : (Bool.rec (motive := fun _ => Res) A B t) = if t = true then B else A := by cases t <;> rfl
theorem mxK_eq (e : Env) (l : List Opd) : ∀ (k : IntKind) (x : Int) (K : IntKind → Int → Res), mxK l k x e K = match foldV (fun x y => ilt x y) e l k x with | some y => K y.1 y.2 | none => .fail := by
  induction l with
  | nil => intro k x K; rfl
  | cons o l ih =>
    intro k x K
    show asI (ev o e) .fail (fun j y => chk (sameK k j) fun _ => Bool.rec (motive := fun _ => Res) (mxK l k x e K) (mxK l k y e K) (ilt x y)) = _
    rw [asI_eq]; simp only [foldV]
    cases ev o e <;> try rfl
    case int j y =>
      show chk (sameK k j) (fun _ => Bool.rec (motive := fun _ => Res) (mxK l k x e K) (mxK l k y e K) (ilt x y)) = _
      rw [chk_eq]
      cases hs : sameK k j with
      | false => simp [hs]
      | true =>
        simp only [hs, if_true]
        rw [brec_if]
        by_cases ht : ilt x y = true
        · rw [if_pos ht, if_pos ht]; exact ih k y K
        · rw [if_neg ht, if_neg ht]; exact ih k x K
theorem mnK_eq (e : Env) (l : List Opd) : ∀ (k : IntKind) (x : Int) (K : IntKind → Int → Res), mnK l k x e K = match foldV (fun x y => ilt y x) e l k x with | some y => K y.1 y.2 | none => .fail := by
  induction l with
  | nil => intro k x K; rfl
  | cons o l ih =>
    intro k x K
    show asI (ev o e) .fail (fun j y => chk (sameK k j) fun _ => Bool.rec (motive := fun _ => Res) (mnK l k x e K) (mnK l k y e K) (ilt y x)) = _
    rw [asI_eq]; simp only [foldV]
    cases ev o e <;> try rfl
    case int j y =>
      show chk (sameK k j) (fun _ => Bool.rec (motive := fun _ => Res) (mnK l k x e K) (mnK l k y e K) (ilt y x)) = _
      rw [chk_eq]
      cases hs : sameK k j with
      | false => simp [hs]
      | true =>
        simp only [hs, if_true]
        rw [brec_if]
        by_cases ht : ilt y x = true
        · rw [if_pos ht, if_pos ht]; exact ih k y K
        · rw [if_neg ht, if_neg ht]; exact ih k x K

theorem insK_pure (i : Ins) (hp : isPure i = true) (F : Tr Fd) (ih : Ih) (wm : Option P) (e : Env) (nx : P) (h : Hp) (k : Kv) :
    insK i F ih wm e nx h k = match pureDV i e with | some v => k e v nx h | none => .fail := by
  cases i <;> simp only [isPure, Bool.false_eq_true] at hp <;> simp only [pureDV]
  case mv a => exact evK_eq _ _ _
  case pick c a b =>
    show asB (ev c e) .fail (fun t => Bool.rec (motive := fun _ => Res) (evK b e fun v => k e v nx h) (evK a e fun v => k e v nx h) t) = _
    rw [asB_eq]
    cases ev c e <;> try rfl
    case bool t => cases t <;> exact evK_eq _ _ _
  case bld z ps =>
    show fillK ps z e (fun l => k e (.agg l) nx h) = _
    rw [fillK_eq]; cases fills e ps z <;> rfl
  case nc a => show solid (ev a e) .fail (fun v => k e v nx h) = _; rw [solid_eq]; cases ev a e <;> rfl
  case bin b x y =>
    show asI (ev x e) (remS b (ev x e) (ev y e) fun v => k e v nx h) (fun j x => asI (ev y e) (symZ b (ev y e) j x fun v => k e v nx h) fun k' y => chk (sameK j k') fun _ => binK b j x y fun v => k e v nx h) = _
    rw [asI_eq]
    cases ev x e <;> try rfl
    case sy u t =>
      exact remS_eq _ _ _ _ _
    case int j x =>
      show asI (ev y e) (symZ b (ev y e) j x fun v => k e v nx h) (fun k' y => chk (sameK j k') fun _ => binK b j x y fun v => k e v nx h) = _
      rw [asI_eq]
      cases ev y e <;> try rfl
      case sy u t => exact symZ_eq _ _ _ _ _ _
      case int k' y =>
        show chk (sameK j k') (fun _ => binK b j x y fun v => k e v nx h) = _
        rw [chk_eq, binK_eq]
        simp only []
        by_cases hs : sameK j k' = true
        · simp only [if_pos hs]
        · simp only [if_neg hs]
  case aeq ks neg x y =>
    show asA (ev x e) .fail (fun a => asA (ev y e) .fail fun b => eqsK ks a b .fail fun t => negK neg t fun v => k e v nx h) = _
    rw [asA_eq]
    cases ev x e <;> try rfl
    case agg a =>
      show asA (ev y e) .fail (fun b => eqsK ks a b .fail fun t => negK neg t fun v => k e v nx h) = _
      rw [asA_eq]
      cases ev y e <;> try rfl
      case agg b =>
        show eqsK ks a b .fail (fun t => negK neg t fun v => k e v nx h) = _
        rw [eqsK_eq]
        simp only []
        cases eqsV ks a b with
        | none => rfl
        | some t => exact negK_eq _ _ _
  case beq neg x y =>
    show asB (ev x e) .fail (fun a => asB (ev y e) .fail fun b => negK neg (beqB a b) fun v => k e v nx h) = _
    rw [asB_eq]
    cases ev x e <;> try rfl
    case bool a =>
      show asB (ev y e) .fail (fun b => negK neg (beqB a b) fun v => k e v nx h) = _
      rw [asB_eq]
      cases ev y e <;> try rfl
      case bool b => show negK neg (beqB a b) _ = _; rw [negK_eq]; cases neg <;> cases a <;> cases b <;> rfl
  case isnil neg x =>
    show asSl (ev x e) (nilsK (ev x e) .fail fun _ => negK neg true fun v => k e v nx h) (fun _ _ _ _ _ => negK neg false fun v => k e v nx h) = _
    rw [asSl_eq, nilsK_eq]
    cases ev x e <;> try rfl
    case nils => exact negK_eq _ _ _
    case sl => exact negK_eq _ _ _
  case shr x y =>
    show asI (ev x e) .fail (fun j a => asI (ev y e) .fail fun _ n => natI n (shrN j a fun v => k e v nx h)) = _
    rw [asI_eq]
    cases ev x e <;> try rfl
    case int j a =>
      show asI (ev y e) .fail (fun _ n => natI n (shrN j a fun v => k e v nx h)) = _
      rw [asI_eq]
      cases ev y e <;> try rfl
      case int j' n =>
        simp only [natI_eq]
        by_cases h1 : 0 ≤ n
        · rw [if_pos h1]
          unfold shrN
          rw [chk_eq, bitsK_eq]
          by_cases h2 : n.toNat ≤ j.bits
          · rw [if_pos (by rw [Nat.ble_eq]; exact h2), if_pos ⟨h1, h2⟩, ishr_eq]; exact forceI_eq _ _
          · rw [if_neg (fun h => h2 (by rwa [Nat.ble_eq] at h)), if_neg (fun h => h2 h.2)]
        · rw [if_neg h1, if_neg (fun h => h1 h.1)]
  case neg a =>
    show asI (ev a e) .fail (fun j x => mkI j (ineg x) fun v => k e v nx h) = _
    rw [asI_eq]
    cases ev a e <;> try rfl
    case int j x => show mkI j (ineg x) _ = _; rw [mkI_eq, ineg_eq]
  case not a =>
    show asB (ev a e) .fail (fun b => blN b fun v => k e v nx h) = _
    rw [asB_eq]
    cases ev a e <;> try rfl
    case bool b => exact blN_eq _ _
  case cv j a =>
    show asI (ev a e) .fail (fun _ x => mkI j x fun v => k e v nx h) = _
    rw [asI_eq]
    cases ev a e <;> try rfl
    case int j' x => exact mkI_eq _ _ _
  case mfn f cs => exact ovsK_eq _ _ _
  case mbf f cs => exact ovsK_eq _ _ _
  case fa o a =>
    show asP (ev a e) (asFl (ev a e) .fail fun p i => forceN (Nat.add i o) fun i => k e (.fld p i) nx h) (fun b i => forceN (Nat.add i o) fun i => k e (.ptr b i) nx h) = _
    rw [asP_eq, asFl_eq]
    cases ev a e <;> try rfl
    case ptr => exact forceN_eq _ _
    case fld => exact forceN_eq _ _
  case fi o a =>
    show asA (ev a e) .fail (fun l => nthK l o .fail fun v => fV v fun v => k e v nx h) = _
    rw [asA_eq]
    cases ev a e <;> try rfl
    case agg l => show nthK l o .fail _ = _; rw [nthK_eq]; simp only [fV_eq, fiV]; cases l[o]? <;> rfl
  case fia o n a =>
    show asA (ev a e) .fail (fun l => dropK o l .fail fun t => takeK n t .fail fun r => k e (.agg r) nx h) = _
    rw [asA_eq]
    cases ev a e <;> try rfl
    case agg l =>
      show dropK o l .fail (fun t => takeK n t .fail fun r => k e (.agg r) nx h) = _
      rw [dropK_eq]; simp only [fiaV, takeK_eq]
      by_cases h1 : o ≤ l.length
      · rw [if_pos h1]
        by_cases h2 : n ≤ (l.drop o).length
        · rw [if_pos h2, if_pos ⟨h1, h2⟩]
        · rw [if_neg h2, if_neg (fun h => h2 h.2)]
      · rw [if_neg h1, if_neg (fun h => h1 h.1)]
  case ia sz a i =>
    show asSl (ev a e) .fail (fun b o n _ s => chk (Nat.beq s sz) fun _ => asI (ev i e) .fail fun _ x => natI x (iaAt sz e nx h k b o n)) = _
    rw [asSl_eq]
    cases ev a e <;> try rfl
    case sl b o n c s =>
      show chk (Nat.beq s sz) (fun _ => asI (ev i e) .fail fun _ x => natI x (iaAt sz e nx h k b o n)) = _
      rw [chk_eq, beq_if, asI_eq]
      cases ev i e
      case int k' x =>
        simp only [iaV, natI_eq]
        by_cases h1 : s = sz
        · rw [if_pos h1]
          by_cases h2 : 0 ≤ x
          · rw [if_pos h2]
            unfold iaAt
            rw [chk_eq, ble_if]
            by_cases h3 : x.toNat < n
            · rw [if_pos (show Nat.succ x.toNat ≤ n from h3), forceN_eq, if_pos ⟨h1, h2, h3⟩]; rfl
            · rw [if_neg (show ¬ Nat.succ x.toNat ≤ n from h3), if_neg (fun h => h3 h.2.2)]
          · rw [if_neg h2, if_neg (fun h => h2 h.2.1)]
        · rw [if_neg h1, if_neg (fun h => h1 h.1)]
      all_goals (simp only [iaV]; split <;> rfl)
  case sla sz x lo hi mx => exact iSla_eq sz x lo hi mx F ih wm e nx h k
  case ex a i =>
    show asT (ev a e) .fail (fun l => nthK l i .fail fun v => fV v fun v => k e v nx h) = _
    rw [asT_eq]
    cases ev a e <;> try rfl
    case tup l => show nthK l i .fail _ = _; rw [nthK_eq]; simp only [fV_eq, exV]; cases l[i]? <;> rfl
  case len a =>
    show asSl (ev a e) (nilsK (ev a e) .fail fun _ => lenOf (nat_lit 0) e nx h k) (fun _ _ n _ _ => lenOf n e nx h k) = _
    rw [asSl_eq]
    cases ev a e <;> try rfl
    case sl => exact forceN_eq _ _
  case cap a =>
    show asSl (ev a e) (nilsK (ev a e) .fail fun _ => lenOf (nat_lit 0) e nx h k) (fun _ _ n c _ => Option.rec (motive := fun _ => Res) .fail (fun c => lenOf c e nx h k) c) = _
    rw [asSl_eq]
    cases ev a e <;> try rfl
    case sl b o n c s => cases c <;> first | rfl | exact forceN_eq _ _
  case mx a l =>
    show asI (ev a e) .fail (fun j x => mxK l j x e fun j x => k e (.int j x) nx h) = _
    rw [asI_eq]
    cases ev a e <;> try rfl
    case int j x => show mxK l j x e _ = _; rw [mxK_eq]; simp only []; cases foldV (fun x y => ilt x y) e l j x <;> rfl
  case mn a l =>
    show asI (ev a e) .fail (fun j x => mnK l j x e fun j x => k e (.int j x) nx h) = _
    rw [asI_eq]
    cases ev a e <;> try rfl
    case int j x => show mnK l j x e _ = _; rw [mnK_eq]; simp only []; cases foldV (fun x y => ilt y x) e l j x <;> rfl
  case px p as =>
    show ovsK as e (fun vs => optV (pxV p vs) fun v => k e v nx h) = _
    rw [ovsK_eq, optV_eq]
    cases pxV p (as.map fun o => ov o e) <;> rfl

end Go.Proofs.YtnoekfkfinjfgaaGreatDoor.Dx
