/- What is laid stands for what is read; calls that are told by tables. No statement of this seat is proved here. -/
import Derived.Test.YtnoekfkfinjfgaaGreatDoorUk
import Derived.Orders
set_option autoImplicit false
set_option linter.unusedSectionVars false
set_option linter.unusedSimpArgs false
set_option linter.unusedVariables false
noncomputable section
namespace Go.Proofs.YtnoekfkfinjfgaaGreatDoor.Dx
open Go
variable [Rho]

def ly : T → P → Hp → List DV × P × Hp
  | .nil, nx, h => ([], nx, h)
  | .cons a t, nx, h => (appL (ly a nx h).1 (ly t (ly a nx h).2.1 (ly a nx h).2.2).1, (ly t (ly a nx h).2.1 (ly a nx h).2.2).2)
  | .v d, nx, h => ([d], nx, h)
  | .any, nx, h => ([.unk], nx, h)
  | .ptr t, nx, h => ([.ptr (ly t nx h).2.1 0], (ly t nx h).2.1.suc, Tr.set (ly t nx h).2.1 (ly t nx h).2.2 (some (.ro (ly t nx h).1)))
  | .sl n sz t, nx, h => ([.sl (ly t nx h).2.1 0 n none sz], (ly t nx h).2.1.suc, Tr.set (ly t nx h).2.1 (ly t nx h).2.2 (some (.ro (ly t nx h).1)))
  | .agg t, nx, h => ([.agg (ly t nx h).1], (ly t nx h).2)
  | .tup t, nx, h => ([.tup (ly t nx h).1], (ly t nx h).2)
theorem lyT_eq (t : T) : ∀ (nx : P) (h : Hp) (K : List DV → P → Hp → Res), lyT t nx h K = K (ly t nx h).1 (ly t nx h).2.1 (ly t nx h).2.2 := by
  induction t with
  | nil => intro nx h K; rfl
  | cons a t iha iht =>
    intro nx h K
    show lyT a nx h (fun x nx h => lyT t nx h fun xs nx h => K (appL x xs) nx h) = _
    rw [iha, iht]; rfl
  | v d => intro nx h K; rfl
  | any => intro nx h K; rfl
  | ptr t ih =>
    intro nx h K
    show lyT t nx h (fun ds nx h => Tr.setK nx h (some (.ro ds)) fun h => nx.sucK fun n => K [.ptr nx (nat_lit 0)] n h) = _
    rw [ih, Tr.setK_eq, P.sucK_eq]; rfl
  | sl n sz t ih =>
    intro nx h K
    show lyT t nx h (fun ds nx h => Tr.setK nx h (some (.ro ds)) fun h => nx.sucK fun m => K [.sl nx (nat_lit 0) n none sz] m h) = _
    rw [ih, Tr.setK_eq, P.sucK_eq]; rfl
  | agg t ih =>
    intro nx h K
    show lyT t nx h (fun ds nx h => K [.agg ds] nx h) = _
    rw [ih]; rfl
  | tup t ih =>
    intro nx h K
    show lyT t nx h (fun ds nx h => K [.tup ds] nx h) = _
    rw [ih]; rfl
theorem ly_mono (t : T) : ∀ (nx : P) (h : Hp), nx.n ≤ (ly t nx h).2.1.n := by
  induction t with
  | nil => intro nx h; exact Nat.le_refl _
  | cons a t iha iht => intro nx h; exact Nat.le_trans (iha nx h) (iht _ _)
  | v d => intro nx h; exact Nat.le_refl _
  | any => intro nx h; exact Nat.le_refl _
  | ptr t ih => intro nx h; have := ih nx h; show _ ≤ (P.suc _).n; rw [P.n_suc]; omega
  | sl n sz t ih => intro nx h; have := ih nx h; show _ ≤ (P.suc _).n; rw [P.n_suc]; omega
  | agg t ih => intro nx h; exact ih nx h
  | tup t ih => intro nx h; exact ih nx h
theorem ly_old (t : T) : ∀ (nx : P) (h : Hp) (k : P), k.n < nx.n → Tr.get? k (ly t nx h).2.2 = Tr.get? k h := by
  induction t with
  | nil => intro nx h k hk; rfl
  | cons a t iha iht => intro nx h k hk; exact (iht _ _ k (Nat.lt_of_lt_of_le hk (ly_mono a nx h))).trans (iha nx h k hk)
  | v d => intro nx h k hk; rfl
  | any => intro nx h k hk; rfl
  | ptr t ih =>
    intro nx h k hk
    have := ly_mono t nx h
    exact (Tr.get_set_ne (by rintro rfl; omega) _ _).trans (ih nx h k hk)
  | sl n sz t ih =>
    intro nx h k hk
    have := ly_mono t nx h
    exact (Tr.get_set_ne (by rintro rfl; omega) _ _).trans (ih nx h k hk)
  | agg t ih => intro nx h k hk; exact ih nx h k hk
  | tup t ih => intro nx h k hk; exact ih nx h k hk
theorem ly_top (t : T) : ∀ (nx : P) (h : Hp), (∀ k : P, nx.n ≤ k.n → Tr.get? k h = none) → ∀ k : P, (ly t nx h).2.1.n ≤ k.n → Tr.get? k (ly t nx h).2.2 = none := by
  induction t with
  | nil => intro nx h ht; exact ht
  | cons a t iha iht => intro nx h ht; exact iht _ _ (iha nx h ht)
  | v d => intro nx h ht; exact ht
  | any => intro nx h ht; exact ht
  | ptr t ih =>
    intro nx h ht k hk
    have hk : (P.suc (ly t nx h).2.1).n ≤ k.n := hk
    rw [P.n_suc] at hk
    exact (Tr.get_set_ne (by rintro rfl; omega) _ _).trans (ih nx h ht k (by omega))
  | sl n sz t ih =>
    intro nx h ht k hk
    have hk : (P.suc (ly t nx h).2.1).n ≤ k.n := hk
    rw [P.n_suc] at hk
    exact (Tr.get_set_ne (by rintro rfl; omega) _ _).trans (ih nx h ht k (by omega))
  | agg t ih => intro nx h ht; exact ih nx h ht
  | tup t ih => intro nx h ht; exact ih nx h ht
theorem ly_moves (t : T) (wm : Option P) (nx : P) (h : Hp) : nx.n ≤ (ly t nx h).2.1.n ∧ (∀ m, wm = some m → m.n ≤ nx.n → ∀ k : P, k.n < m.n → Tr.get? k (ly t nx h).2.2 = Tr.get? k h) ∧ ((∀ k : P, nx.n ≤ k.n → Tr.get? k h = none) → ∀ k : P, (ly t nx h).2.1.n ≤ k.n → Tr.get? k (ly t nx h).2.2 = none) :=
  ⟨ly_mono t nx h, fun m _ hmn k hk => ly_old t nx h k (by omega), ly_top t nx h⟩

theorem VRs.to_t {j : J} : ∀ {l : List DV} {l' : List Value}, VRs j l l' → VRt j l l'
  | _, _, .nil => .nil
  | _, _, .cons h _ t => .cons h (VRs.to_t t)
theorem VRt.to_s {j : J} : ∀ {l : List DV} {l' : List Value}, VRt j l l' → (∀ v ∈ l', v.oneCell' = true) → VRs j l l'
  | _, _, .nil, _ => .nil
  | _, _, .cons h t, ho => .cons h (ho _ (by simp)) (VRt.to_s t fun v hv => ho v (by simp [hv]))
theorem VRt.appL {j : J} : ∀ {x : List DV} {x' : List Value} {l : List DV} {l' : List Value}, VRt j x x' → VRt j l l' → VRt j (Dx.appL x l) (x' ++ l')
  | _, _, _, _, .nil, h => h
  | _, _, _, _, .cons hv t, h => .cons hv (VRt.appL t h)

/-- What reads as a tree tells, laid anew, still reads. -/
theorem lay_gen {B : P → List DV → Prop} {w : World} {js : J} {Ok : Nat → Prop} {Q : J → P → Hp → Prop} {lim : Nat}
    (hsrc : ∀ k c, B k c → ∀ i, js k = some i → ∃ b s, (i = .ro b s ∨ ∃ cc, i = .at b s cc) ∧ Ok b ∧ CellsAt js w b s c)
    (hQ : ∀ j nx hp b s ds, Q j nx hp → nx.n < lim → Ok b → CellsAt j w b s ds → j nx = none ∧ Q (j.put nx (.ro b s)) nx.suc (Tr.set nx hp (some (.ro ds)))) (t : T) :
    ∀ (l : List DV) (vs : List Value), Rd B t l → VRt js l vs → ∀ (j : J) (nx : P) (hp : Hp), Q j nx hp → (ly t nx hp).2.1.n ≤ lim →
      ∃ j', Q j' (ly t nx hp).2.1 (ly t nx hp).2.2 ∧ (∀ k i, j k = some i → j' k = some i) ∧ VRt j' (ly t nx hp).1 vs := by
  induction t with
  | nil =>
    intro l vs hr hv j nx hp q hl
    have hr : l = [] := hr
    subst hr; cases hv
    exact ⟨j, q, fun _ _ h => h, .nil⟩
  | cons a t iha iht =>
    intro l vs hr hv j nx hp q hl
    obtain ⟨x, xs, rfl, h1, h2⟩ := hr
    cases hv with
    | cons hv1 hv2 =>
    obtain ⟨j1, q1, e1, r1⟩ := iha _ _ h1 (.cons hv1 .nil) j nx hp q (Nat.le_trans (ly_mono t _ _) hl)
    obtain ⟨j2, q2, e2, r2⟩ := iht _ _ h2 hv2 j1 _ _ q1 hl
    refine ⟨j2, q2, fun k i h => e2 k i (e1 k i h), ?_⟩
    exact VRt.appL (x' := [_]) (r1.mono fun k i h => .inl (e2 k i h)) r2
  | v d =>
    intro l vs hr hv j nx hp q hl
    obtain ⟨x, rfl, hs⟩ := hr
    cases hv with
    | cons hv1 hv2 =>
    cases hv2
    exact ⟨j, q, fun _ _ h => h, .cons (hs _ _ _ hv1) .nil⟩
  | any =>
    intro l vs hr hv j nx hp q hl
    obtain ⟨x, rfl⟩ := hr
    cases hv with
    | cons hv1 hv2 =>
    cases hv2
    exact ⟨j, q, fun _ _ h => h, .cons (.unk _) .nil⟩
  | agg t ih =>
    intro l vs hr hv j nx hp q hl
    obtain ⟨c, rfl, h1⟩ := hr
    cases hv with
    | cons hv1 hv2 =>
    cases hv2
    cases hv1 with
    | agg hc =>
    obtain ⟨j1, q1, e1, r1⟩ := ih _ _ h1 hc.to_t j nx hp q hl
    exact ⟨j1, q1, e1, .cons (.agg (r1.to_s hc.ones)) .nil⟩
  | tup t ih =>
    intro l vs hr hv j nx hp q hl
    obtain ⟨c, rfl, h1⟩ := hr
    cases hv with
    | cons hv1 hv2 =>
    cases hv2
    cases hv1 with
    | tup hc =>
    obtain ⟨j1, q1, e1, r1⟩ := ih _ _ h1 hc j nx hp q hl
    exact ⟨j1, q1, e1, .cons (.tup r1) .nil⟩
  | ptr t ih =>
    intro l vs hr hv j nx hp q hl
    obtain ⟨k, o, c, rfl, hB, ho, hlen, h1⟩ := hr
    cases hv with
    | cons hv1 hv2 =>
    cases hv2
    rename_i v'
    obtain ⟨b, s, hve, hok, hc⟩ : ∃ b s, v' = .pointer (some ⟨b, s + o, none⟩) ∧ Ok b ∧ CellsAt js w b s c := by
      cases hv1 with
      | ptrA hj =>
        obtain ⟨b, s, hi, h2, h3⟩ := hsrc k c hB _ hj
        rcases hi with hi | ⟨cc, hi⟩ <;> cases hi
        exact ⟨_, _, rfl, h2, h3⟩
      | ptrO hj =>
        obtain ⟨b, s, hi, h2, h3⟩ := hsrc k c hB _ hj
        rcases hi with hi | ⟨cc, hi⟩ <;> cases hi
        exact ⟨_, _, rfl, h2, h3⟩
      | ptrD ad hj =>
        obtain ⟨b, s, hi, h2, h3⟩ := hsrc k c hB _ hj
        rcases hi with hi | ⟨cc, hi⟩ <;> cases hi
    subst hve
    obtain ⟨us, h4, h5, h6⟩ := hc.part o _ hlen
    have hl' : (P.suc (ly t nx hp).2.1).n ≤ lim := hl
    rw [P.n_suc] at hl'
    obtain ⟨j1, q1, e1, r1⟩ := ih _ _ h1 h4.to_t j nx hp q (by omega)
    have hcell : CellsAt j1 w b (s + o) (ly t nx hp).1 := fun i d hd => by
      obtain ⟨u, hu, hr⟩ := r1.get i d hd
      exact ⟨u, h6 i u hu, hr, h4.ones u (List.mem_of_getElem? hu)⟩
    obtain ⟨hn, q2⟩ := hQ j1 _ _ b (s + o) _ q1 (by omega) hok hcell
    refine ⟨_, q2, fun k i h => ?_, .cons (VR.ptrO (o := 0) (J.put_self _ _ _)) .nil⟩
    have h2 := e1 k i h
    rw [J.put_ne _ (by rintro rfl; rw [hn] at h2; cases h2)]; exact h2
  | sl n sz t ih =>
    intro l vs hr hv j nx hp q hl
    obtain ⟨k, o, cp, c, rfl, hn1, hB, ho, hlen, h1⟩ := hr
    cases hv with
    | cons hv1 hv2 =>
    cases hv2
    rename_i v'
    obtain ⟨b, s, cap, hve, hcap, hok, hc⟩ : ∃ b s cap, v' = .slice (some ⟨b, s + o, none⟩) n cap ∧ n ≤ cap ∧ Ok b ∧ CellsAt js w b s c := by
      cases hv1 with
      | slA hj hoff hcp hs he =>
        obtain ⟨b, s, hi, h2, h3⟩ := hsrc k c hB _ hj
        rcases hi with hi | ⟨cc, hi⟩ <;> cases hi
        have := hoff (.inl hn1); subst this
        exact ⟨_, _, _, rfl, hcp.1, h2, h3⟩
      | slO hj hoff hcp =>
        obtain ⟨b, s, hi, h2, h3⟩ := hsrc k c hB _ hj
        rcases hi with hi | ⟨cc, hi⟩ <;> cases hi
        have := hoff (.inl hn1); subst this
        exact ⟨_, _, _, rfl, hcp.1, h2, h3⟩
      | slD ad hj hcp =>
        obtain ⟨b, s, hi, h2, h3⟩ := hsrc k c hB _ hj
        rcases hi with hi | ⟨cc, hi⟩ <;> cases hi
      | slE ad hj hcp h0 => omega
    subst hve
    obtain ⟨us, h4, h5, h6⟩ := hc.part o _ hlen
    have hl' : (P.suc (ly t nx hp).2.1).n ≤ lim := hl
    rw [P.n_suc] at hl'
    obtain ⟨j1, q1, e1, r1⟩ := ih _ _ h1 h4.to_t j nx hp q (by omega)
    have hcell : CellsAt j1 w b (s + o) (ly t nx hp).1 := fun i d hd => by
      obtain ⟨u, hu, hr⟩ := r1.get i d hd
      exact ⟨u, h6 i u hu, hr, h4.ones u (List.mem_of_getElem? hu)⟩
    obtain ⟨hn, q2⟩ := hQ j1 _ _ b (s + o) _ q1 (by omega) hok hcell
    refine ⟨_, q2, fun k i h => ?_, .cons (VR.slO (J.put_self _ _ _) (fun _ => rfl) ⟨hcap, fun _ h => by cases h⟩) .nil⟩
    have h2 := e1 k i h
    rw [J.put_ne _ (by rintro rfl; rw [hn] at h2; cases h2)]; exact h2

/-! ### Where a call begins -/

/-- What stands in memory when a call begins: blocks that are only read, the program's variables first. -/
structure Start (nx : P) (hp : Hp) (j : J) (w : World) : Prop where
  only : ∀ k i, j k = some i → k.n < nx.n ∧ ∃ b s, i = .ro b s
  heap : ∀ k b s, j k = some (.ro b s) → ∃ l, Tr.get? k hp = some (.ro l) ∧ b < w.heap.size ∧ CellsAt j w b s l
  glo : ∀ k : P, k.n < GN → j k = some (.ro k.n 0)
  top : ∀ k : P, nx.n ≤ k.n → Tr.get? k hp = none
theorem Start.put {nx : P} {hp : Hp} {j : J} {w : World} (S : Start nx hp j w) {b s : Nat} {ds : List DV} (hb : b < w.heap.size) (hc : CellsAt j w b s ds) : j nx = none ∧ Start nx.suc (Tr.set nx hp (some (.ro ds))) (j.put nx (.ro b s)) w := by
  have hn : j nx = none := by
    cases h : j nx with
    | none => rfl
    | some i => have := (S.only nx i h).1; omega
  have hext := Ext.put_new hn (.ro b s)
  refine ⟨hn, ?_, ?_, ?_, ?_⟩
  · intro k i hk
    by_cases h1 : k = nx
    · subst h1; rw [J.put_self] at hk; cases hk; exact ⟨by rw [P.n_suc]; omega, _, _, rfl⟩
    · rw [J.put_ne j h1] at hk
      obtain ⟨h2, h3⟩ := S.only k i hk
      exact ⟨by rw [P.n_suc]; omega, h3⟩
  · intro k b' s' hk
    by_cases h1 : k = nx
    · subst h1; rw [J.put_self] at hk; cases hk
      exact ⟨ds, Tr.get_set_self _ _ _, hb, hc.mono hext⟩
    · rw [J.put_ne j h1] at hk
      obtain ⟨l, h2, h3, h4⟩ := S.heap k b' s' hk
      exact ⟨l, by rw [Tr.get_set_ne h1]; exact h2, h3, h4.mono hext⟩
  · intro k hk
    have h1 : k ≠ nx := by rintro rfl; rw [S.glo k hk] at hn; cases hn
    rw [J.put_ne j h1]; exact S.glo k hk
  · intro k hk
    rw [P.n_suc] at hk
    rw [Tr.get_set_ne (by rintro rfl; omega)]; exact S.top k (by omega)
theorem Start.rel {nx : P} {hp : Hp} {j : J} {w : World} (S : Start nx hp j w) {hi : Nat} {a : Act} : Rel (fun _ => False) a.tmps.size hi j (fun _ => none) .nl nx hp a w where
  fresh := fun k i h => .inl (S.only k i h).1
  heap := fun k i h _ => by
    obtain ⟨_, b, s, rfl⟩ := S.only k i h
    exact S.heap k b s h
  inj := fun k k' b s c s' c' h => by obtain ⟨_, _, _, h1⟩ := S.only k _ h; cases h1
  inr := fun k k' b s c s' h => by obtain ⟨_, _, _, h1⟩ := S.only k _ h; cases h1
  env := fun p v h => by rw [Tr.get_e] at h; cases h
  pvv := fun p b h => nomatch h
  pin := fun p q b h => nomatch h
  pfr := fun p b h => nomatch h
  pfo := fun p b h => nomatch h
  loc := fun p l h => by rw [Tr.get_e] at h; cases h
  size := rfl
  lt := fun k b s c h => by obtain ⟨_, _, _, h1⟩ := S.only k _ h; cases h1
  lr := fun k b s h => by obtain ⟨l, _, h1, _⟩ := S.heap k b s h; exact h1
  top := S.top
  maps := {
    glo := S.glo
    dis := fun k k' b s c h => by obtain ⟨_, _, _, h1⟩ := S.only k _ h; cases h1
    dir := fun k k' b s _ h => by obtain ⟨_, _, _, h1⟩ := S.only k' _ h; cases h1
    inj := fun k k' r h => by obtain ⟨_, _, _, h1⟩ := S.only k _ h; cases h1
    kind := fun k r h => by obtain ⟨_, _, _, h1⟩ := S.only k _ h; cases h1 }
  pfm := fun p b h => nomatch h
/-- The program's variables, laid. -/
def glH : List (List DV) → P → Hp → P × Hp
  | [], k, h => (k, h)
  | g :: gl, k, h => glH gl k.suc (Tr.set k h (some (.ro g)))
theorem glH_n : ∀ (gl : List (List DV)) (k : P) (h : Hp), (glH gl k h).1.n = k.n + gl.length
  | [], k, h => rfl
  | g :: gl, k, h => by show (glH gl k.suc _).1.n = _; rw [glH_n gl]; rw [P.n_suc]; simp; omega
theorem glH_get : ∀ (gl : List (List DV)) (k : P) (h : Hp) (q : P), (∀ i g, gl[i]? = some g → q.n = k.n + i → Tr.get? q (glH gl k h).2 = some (.ro g)) ∧ ((q.n < k.n ∨ k.n + gl.length ≤ q.n) → Tr.get? q (glH gl k h).2 = Tr.get? q h)
  | [], k, h, q => ⟨fun i g hg => by simp at hg, fun _ => rfl⟩
  | g :: gl, k, h, q => by
    obtain ⟨h1, h2⟩ := glH_get gl k.suc (Tr.set k h (some (.ro g))) q
    rw [P.n_suc] at h1 h2
    refine ⟨fun i g' hg hq => ?_, fun hq => ?_⟩
    · cases i with
      | zero =>
        simp at hg; subst hg
        have : q = k := P.n_inj (by omega)
        subst this
        show Tr.get? q (glH gl q.suc _).2 = _
        rw [h2 (.inl (by omega)), Tr.get_set_self]
      | succ i => exact h1 i g' (by simpa using hg) (by omega)
    · simp only [List.length_cons] at hq
      show Tr.get? q (glH gl k.suc _).2 = _
      rw [h2 (by omega), Tr.get_set_ne (by rintro rfl; omega)]
/-- A block begins with these plain values. -/
def EqP (g c : List DV) : Prop := ∀ (i : Nat) (d : DV), g[i]? = some d → ∃ x : DV, c[i]? = some x ∧ SameD d x
theorem eqL_or : ∀ (g c : List DV) (F : Res) (K : Unit → Res), eqL g c F K = F ∨ (EqP g c ∧ eqL g c F K = K ())
  | [], c, F, K => .inr ⟨fun i d h => by simp at h, rfl⟩
  | d :: g, c, F, K => by
    cases c with
    | nil => exact .inl rfl
    | cons x c =>
      show eqS d x F (fun _ => eqL g c F K) = F ∨ _ ∧ eqS d x F (fun _ => eqL g c F K) = K ()
      rcases eqS_or d x F (fun _ => eqL g c F K) with h1 | ⟨h1, h2⟩
      · exact .inl h1
      · rcases eqL_or g c F K with h3 | ⟨h3, h4⟩
        · exact .inl (h2.trans h3)
        · refine .inr ⟨fun i d' hd => ?_, h2.trans h4⟩
          cases i with
          | zero => simp at hd; subst hd; exact ⟨x, rfl, h1⟩
          | succ i => simpa using h3 i d' (by simpa using hd)
theorem gchk_or : ∀ (gl : List (List DV)) (k : P) (h : Hp) (F : Res) (K : Unit → Res), gchk gl k h F K = F ∨ ((∀ i g, gl[i]? = some g → ∀ q : P, q.n = k.n + i → ∃ c, blkR h q c ∧ EqP g c) ∧ gchk gl k h F K = K ())
  | [], k, h, F, K => .inr ⟨fun i g hg => by simp at hg, rfl⟩
  | g :: gl, k, h, F, K => by
    have e : gchk (g :: gl) k h F K = objK k h F fun c => eqL g c F fun _ => k.sucK fun k' => gchk gl k' h F K := rfl
    rw [e]
    rcases objK_or (h := h) (k := k) (F := F) (G := fun c => eqL g c F fun _ => k.sucK fun k' => gchk gl k' h F K) with h1 | ⟨c, h1, h2⟩
    · exact .inl h1
    rcases eqL_or g c F (fun _ => k.sucK fun k' => gchk gl k' h F K) with h3 | ⟨h3, h4⟩
    · exact .inl (h2.trans h3)
    replace h4 := h4.trans (P.sucK_eq _ _)
    rcases gchk_or gl k.suc h F K with h5 | ⟨h5, h6⟩
    · exact .inl (h2.trans (h4.trans h5))
    · refine .inr ⟨fun i g' hg q hq => ?_, h2.trans (h4.trans h6)⟩
      cases i with
      | zero =>
        simp at hg; subst hg
        have : q = k := P.n_inj (by omega)
        subst this
        exact ⟨c, h1, h3⟩
      | succ i => exact h5 i g' (by simpa using hg) q (by rw [P.n_suc]; omega)

/-- The world in which a call with these variables begins, nothing else told. -/
theorem gl_start {L : P → Prop} {N hi : Nat} {j : J} {pv : P → Option Nat} {e : Env} {nx : P} {h : Hp} {a : Act} {w : World} (R : Rel L N hi j pv e nx h a w) {gl : List (List DV)} (hl : gl.length = GN) (hg : ∀ i g, gl[i]? = some g → ∀ q : P, q.n = P.n .z + i → ∃ c, blkR h q c ∧ EqP g c) :
    Start (glH gl .z .nl).1 (glH gl .z .nl).2 (fun k => if k.n < GN then some (.ro k.n 0) else none) w := by
  have hn : (glH gl .z .nl).1.n = GN := by rw [glH_n, P.n_z]; omega
  refine ⟨?_, ?_, ?_, ?_⟩
  · intro k i hk
    by_cases h1 : k.n < GN
    · rw [if_pos h1] at hk; cases hk; exact ⟨by omega, _, _, rfl⟩
    · rw [if_neg h1] at hk; cases hk
  · intro k b s hk
    by_cases h1 : k.n < GN
    · rw [if_pos h1] at hk; cases hk
      have hi : k.n < gl.length := by omega
      obtain ⟨c, h2, h3⟩ := hg k.n gl[k.n] (List.getElem?_eq_getElem hi) k (by rw [P.n_z]; omega)
      have hjk := R.maps.glo k h1
      have hlt : k.n < nx.n := by
        rcases Nat.lt_or_ge k.n nx.n with h' | h'
        · exact h'
        · have := R.top k h'; rcases h2 with h2 | h2 <;> (rw [this] at h2; cases h2)
      obtain ⟨l, h4, h5, h6⟩ := R.heap k _ hjk hlt
      have : l = c := by rcases h2 with h2 | h2 <;> (rw [h4] at h2; cases h2); rfl
      subst this
      refine ⟨gl[k.n], (glH_get gl .z .nl k).1 k.n _ (List.getElem?_eq_getElem hi) (by rw [P.n_z]; omega), h5, fun i d hd => ?_⟩
      obtain ⟨x, hx, hs⟩ := h3 i d hd
      obtain ⟨v', h7, h8, h9⟩ := h6 i x hx
      exact ⟨v', h7, hs _ _ _ h8, h9⟩
    · rw [if_neg h1] at hk; cases hk
  · intro k hk; exact if_pos hk
  · intro k hk
    rw [(glH_get gl .z .nl k).2 (.inr (by rw [P.n_z]; omega)), Tr.get_e]

/-- Nothing that was there is another. -/
structure Still (w w' : World) : Prop where
  size : w.heap.size ≤ w'.heap.size
  os : w'.os = w.os
  output : w'.output = w.output
  same : ∀ x, x < w.heap.size → w'.heap[x]? = w.heap[x]?
section
variable {L : P → Prop} {N hi : Nat} {j : J} {pv : P → Option Nat} {e : Env} {nx : P} {h : Hp} {a : Act} {w w' : World}
theorem Still.map (S : Still w w') (r : Nat) (es : Array MapEntry) (n : Nat) (h : w.heap[r]? = some (.map es n)) : w'.heap[r]? = some (.map es n) := by
  rw [S.same r (Array.getElem?_eq_some_iff.1 h).1]; exact h
theorem Rel.pvlt (R : Rel L N hi j pv e nx h a w) {p : P} {b : Nat} (hb : pv p = some b) : b < w.heap.size := by
  obtain ⟨l, hl⟩ := R.pvv p b hb
  obtain ⟨b', hb', _, hlies, _⟩ := R.env p _ hl
  rw [hb] at hb'; cases hb'; exact hlies.lt
theorem Rel.still (R : Rel L N hi j pv e nx h a w) (S : Still w w') : Rel L N hi j pv e nx h a w' where
  fresh := R.fresh
  heap := fun k i hk hlt => by
    refine HR.of_heap (Ext.refl j) rfl S.size ?_ (fun r es n _ => S.map r es n) (R.heap k i hk hlt)
    intro b hb
    rcases hb with ⟨s, c, rfl⟩ | ⟨s, rfl⟩
    · exact S.same b (R.lt _ _ _ _ hk)
    · exact S.same b (R.lr _ _ _ hk)
  inj := R.inj
  inr := R.inr
  env := fun p v hv => ER.of_heap (Ext.refl j) S.size (fun b hb => S.same b (R.pvlt hb)) (R.env p v hv)
  pvv := R.pvv
  pin := R.pin
  pfr := R.pfr
  pfo := R.pfo
  loc := R.loc
  size := R.size
  lt := fun k b s c hk => Nat.lt_of_lt_of_le (R.lt k b s c hk) S.size
  lr := fun k b s hk => Nat.lt_of_lt_of_le (R.lr k b s hk) S.size
  top := R.top
  maps := R.maps.keep S.map
  pfm := R.pfm
theorem Fr.still (hi n : Nat) (j : J) (pv : P → Option Nat) (S : Still w w') : Fr hi n j pv w j pv w' :=
  { Fr.refl hi n j pv w with
    size := S.size
    os := S.os
    output := S.output
    same := fun x hx _ _ _ => S.same x hx
    froz := fun ad hl => by unfold World.frozen?; rw [S.same _ hl] }
/-- A block that is new in the world is given a key, to be read alone. -/
theorem Rel.roNew {n0 : Nat} {j0 : J} {w0 : World} (R : Rel L N hi j pv e nx h a w) (F : Fr hi n0 j0 pv w0 j pv w) (hn0 : n0 ≤ nx.n) (hlow : (∀ k b s c, j k = some (.at b s c) → b < w0.heap.size) ∧ (∀ p b, pv p = some b → b < w0.heap.size) ∧ ∀ k r, j k = some (.mp r) → r < w0.heap.size) (hn : nx.n < hi) {b s : Nat} {ds : List DV} (hb0 : w0.heap.size ≤ b) (hb : b < w.heap.size) (hc : CellsAt j w b s ds) :
    j nx = none ∧ Rel L N hi (j.put nx (.ro b s)) pv e nx.suc (Tr.set nx h (some (.ro ds))) a w ∧ Fr hi n0 j0 pv w0 (j.put nx (.ro b s)) pv w ∧ ((∀ k b' s' c, (j.put nx (.ro b s)) k = some (.at b' s' c) → b' < w0.heap.size) ∧ (∀ p b, pv p = some b → b < w0.heap.size) ∧ ∀ k r, (j.put nx (.ro b s)) k = some (.mp r) → r < w0.heap.size) := by
  have hnone := R.key_none hn
  have hext := Ext.put_new hnone (.ro b s)
  have hat : ∀ k b' s' c, (j.put nx (.ro b s)) k = some (.at b' s' c) → j k = some (.at b' s' c) := by
    intro k b' s' c hk
    by_cases h1 : k = nx
    · subst h1; rw [J.put_self] at hk; cases hk
    · rw [J.put_ne j h1] at hk; exact hk
  have hmp : ∀ k r, (j.put nx (.ro b s)) k = some (.mp r) → j k = some (.mp r) := by
    intro k r hk
    by_cases h1 : k = nx
    · subst h1; rw [J.put_self] at hk; cases hk
    · rw [J.put_ne j h1] at hk; exact hk
  have hro : ∀ k b' s', (j.put nx (.ro b s)) k = some (.ro b' s') → j k = some (.ro b' s') ∨ b' = b := by
    intro k b' s' hk
    by_cases h1 : k = nx
    · subst h1; rw [J.put_self] at hk; cases hk; exact .inr rfl
    · rw [J.put_ne j h1] at hk; exact .inl hk
  refine ⟨hnone, ?_, ?_, fun k b' s' c hk => hlow.1 k b' s' c (hat k b' s' c hk), hlow.2.1, fun k r hk => hlow.2.2 k r (hmp k r hk)⟩
  · constructor
    · intro k i hk
      rw [P.n_suc]
      by_cases h1 : k = nx
      · subst h1; exact .inl (by omega)
      · rw [J.put_ne j h1] at hk
        rcases R.fresh k i hk with h | h
        · exact .inl (by omega)
        · exact .inr h
    · intro k i hk hlt
      by_cases h1 : k = nx
      · subst h1; rw [J.put_self] at hk; cases hk
        exact ⟨ds, Tr.get_set_self _ _ _, hb, hc.mono hext⟩
      · rw [J.put_ne j h1] at hk
        have hlt' : k.n < nx.n := by
          rw [P.n_suc] at hlt
          have : k.n ≠ nx.n := fun h => h1 (P.n_inj h)
          omega
        exact HR.of_heap hext (Tr.get_set_ne h1 _ _) (Nat.le_refl _) (fun _ _ => rfl) (fun _ _ _ _ h => h) (R.heap k i hk hlt')
    · exact fun k k' b s c s' c' h1 h2 => R.inj k k' _ _ _ _ _ (hat _ _ _ _ h1) (hat _ _ _ _ h2)
    · intro k k' b' s' c s'' h1 h2
      have h3 := hat _ _ _ _ h1
      rcases hro _ _ _ h2 with h4 | h4
      · exact R.inr _ _ _ _ _ _ h3 h4
      · subst h4; have := hlow.1 _ _ _ _ h3; omega
    · intro p v hv; exact ER.of_heap hext (Nat.le_refl _) (fun _ _ => rfl) (R.env p v hv)
    · exact R.pvv
    · exact R.pin
    · exact fun p x hp k s' c hk => R.pfr p x hp k s' c (hat _ _ _ _ hk)
    · intro p x hp k s' hk
      rcases hro _ _ _ hk with h4 | h4
      · exact R.pfo p x hp k s' h4
      · subst h4; have := hlow.2.1 p _ hp; omega
    · exact R.loc
    · exact R.size
    · exact fun k b' s' c hk => R.lt k b' s' c (hat _ _ _ _ hk)
    · intro k b' s' hk
      rcases hro _ _ _ hk with h4 | h4
      · exact R.lr _ _ _ h4
      · subst h4; exact hb
    · intro k hk
      rw [P.n_suc] at hk
      rw [Tr.get_set_ne (by rintro rfl; omega)]; exact R.top k (by omega)
    · refine ⟨fun k hk => ?_, fun k k' b' s' c h1 h2 => R.maps.dis _ _ _ _ _ (hat _ _ _ _ h1) (hmp _ _ h2), fun k k' b' s' h1 h2 => ?_, fun k k' r h1 h2 => R.maps.inj _ _ _ (hmp _ _ h1) (hmp _ _ h2), fun k r h1 => R.maps.kind _ _ (hmp _ _ h1)⟩
      · have := R.maps.glo k hk
        rw [J.put_ne j (by rintro rfl; rw [hnone] at this; cases this)]; exact this
      · rcases hro _ _ _ h1 with h4 | h4
        · exact R.maps.dir _ _ _ _ h4 (hmp _ _ h2)
        · subst h4; have := hlow.2.2 _ _ (hmp _ _ h2); omega
    · exact fun p x hp k hk => R.pfm p x hp k (hmp _ _ hk)
  · exact {
      size := F.size, os := F.os, output := F.output, same := F.same, ext := F.ext.trans hext
      old := fun k hk => by rw [J.put_ne j (by rintro rfl; omega)]; exact F.old k hk
      more := fun k h1 h2 => by
        by_cases h3 : k = nx
        · subst h3; exact hn0
        · rw [J.put_ne j h3] at h2; exact F.more k h1 h2
      new := fun k x s' c hk hlt => F.new k x s' c (hat _ _ _ _ hk) hlt
      ro := fun k x s' hk => by
        rcases hro _ _ _ hk with h4 | h4
        · exact F.ro k x s' h4
        · subst h4; exact .inr hb0
      pnew := F.pnew, froz := F.froz
      newm := fun k x hk hlt => F.newm k x (hmp _ _ hk) hlt }
end

/-! ### A call that is told -/

/-- A call with arguments that read as 'ts' hands back what reads as 'r', all of it new. -/
def TabOk (Pr : Program) (f : P) (gl : List (List DV)) (ts r : T) : Prop :=
  ∀ (j : J) (w : World) (args : List Value), Start (ly ts (glH gl .z .nl).1 (glH gl .z .nl).2).2.1 (ly ts (glH gl .z .nl).1 (glH gl .z .nl).2).2.2 j w → VRt j (ly ts (glH gl .z .nl).1 (glH gl .z .nl).2).1 args →
    Calls Pr f.n args.toArray w fun e w' => ∃ (v : DV) (v' : Value) (jr : J) (nx' : P) (h' : Hp), e = .returned v' ∧ Rel (fun _ => False) 0 nx'.n jr (fun _ => none) .nl nx' h' { tmps := #[], defers := [] } w' ∧ Rd (blkW h') r [v] ∧ VR jr v v' ∧ (∀ k b s c, jr k = some (.at b s c) → w.heap.size ≤ b) ∧ Still w w'
theorem tab_sim {Pr : Program} {f : P} {gl : List (List DV)} {ts r : T} {vs : List DV} {nx : P} {h : Hp} {d : DV} (T0 : TabOk Pr f gl ts r) (hl : gl.length = GN) (hg : ∀ i g, gl[i]? = some g → ∀ q : P, q.n = P.n .z + i → ∃ c, blkR h q c ∧ EqP g c) (hr : Rd (blkR h) ts vs) (hd : (ly r nx h).1 = [d])
    (L : P → Prop) (N hi : Nat) (j : J) (pv : P → Option Nat) (e : Env) (a : Act) (w : World) (R : Rel L N hi j pv e nx h a w) (hn : (ly r nx h).2.1.n ≤ hi) (args : List Value) (hargs : VRt j vs args) :
    Calls Pr f.n args.toArray w fun q w' => ∃ v' j', q = .returned v' ∧ Rel L N hi j' pv e (ly r nx h).2.1 (ly r nx h).2.2 a w' ∧ Fr hi nx.n j pv w j' pv w' ∧ VR j' d v' := by
  have S0 := gl_start R hl hg
  have hsrc : ∀ k c, blkR h k c → ∀ i, j k = some i → ∃ b s, (i = .ro b s ∨ ∃ cc, i = .at b s cc) ∧ b < w.heap.size ∧ CellsAt j w b s c := by
    intro k c hB i hi
    have hlt : k.n < nx.n := by
      rcases Nat.lt_or_ge k.n nx.n with h' | h'
      · exact h'
      · have := R.top k h'; rcases hB with hB | hB <;> (rw [this] at hB; cases hB)
    have H := R.heap k i hi hlt
    cases i with
    | dead => have H : Tr.get? k h = some .dead := H; rcases hB with hB | hB <;> (rw [H] at hB; cases hB)
    | mp q => obtain ⟨_, _, _, H, _⟩ := H; rcases hB with hB | hB <;> (rw [H] at hB; cases hB)
    | «at» b s cc =>
      obtain ⟨h1, l, h2, _, h3⟩ := H
      have : l = c := by rcases hB with hB | hB <;> (rw [h2] at hB; cases hB); rfl
      subst this
      exact ⟨b, s, .inr ⟨cc, rfl⟩, h1.lt, h3⟩
    | ro b s =>
      obtain ⟨l, h2, h1, h3⟩ := H
      have : l = c := by rcases hB with hB | hB <;> (rw [h2] at hB; cases hB); rfl
      subst this
      exact ⟨b, s, .inl rfl, h1, h3⟩
  obtain ⟨j1, S1, _, hv1⟩ := lay_gen (js := j) (w := w) (Ok := fun b => b < w.heap.size) (Q := fun j' nx' hp' => Start nx' hp' j' w) (lim := (ly ts (glH gl .z .nl).1 (glH gl .z .nl).2).2.1.n) hsrc (fun j' nx' hp' b s ds hq _ hb hc => hq.put hb hc) ts vs args hr hargs _ _ _ S0 (Nat.le_refl _)
  refine (T0 j1 w args S1 hv1).mono ?_
  rintro q w' ⟨v, v', jr, nx', h', rfl, R', hr', hv', hnew, S⟩
  have hsrc' : ∀ k c, blkW h' k c → ∀ i, jr k = some i → ∃ b s, (i = .ro b s ∨ ∃ cc, i = .at b s cc) ∧ (w.heap.size ≤ b ∧ b < w'.heap.size) ∧ CellsAt jr w' b s c := by
    intro k c hB i hi
    have hB : Tr.get? k h' = some (.cells c) := hB
    have hlt : k.n < nx'.n := by
      rcases Nat.lt_or_ge k.n nx'.n with h' | h'
      · exact h'
      · have := R'.top k h'; rw [this] at hB; cases hB
    have H := R'.heap k i hi hlt
    cases i with
    | dead => have H : Tr.get? k h' = some .dead := H; rw [H] at hB; cases hB
    | mp q => obtain ⟨_, _, _, H, _⟩ := H; rw [H] at hB; cases hB
    | «at» b s cc =>
      obtain ⟨h1, l, h2, _, h3⟩ := H
      rw [h2] at hB; cases hB
      exact ⟨b, s, .inr ⟨cc, rfl⟩, ⟨hnew _ _ _ _ hi, h1.lt⟩, h3⟩
    | ro b s =>
      obtain ⟨l, h2, _⟩ := H
      rw [h2] at hB; cases hB
  obtain ⟨j2, ⟨R2, F2, _⟩, _, hv2⟩ := lay_gen (js := jr) (w := w') (Ok := fun b => w.heap.size ≤ b ∧ b < w'.heap.size)
    (Q := fun j' nx' hp' => Rel L N hi j' pv e nx' hp' a w' ∧ Fr hi nx.n j pv w j' pv w' ∧ nx.n ≤ nx'.n ∧ ((∀ k b s c, j' k = some (.at b s c) → b < w.heap.size) ∧ (∀ p b, pv p = some b → b < w.heap.size) ∧ ∀ k r, j' k = some (.mp r) → r < w.heap.size)) (lim := hi) hsrc' (fun j' nx' hp' b s ds hq hn' hb hc => by
      obtain ⟨h1, h2, h3, h4⟩ := hq
      obtain ⟨g1, g2, g3, g4⟩ := h1.roNew h2 h3 h4 hn' hb.1 hb.2 hc
      exact ⟨g1, g2, g3, by rw [P.n_suc]; omega, g4⟩) r [v] [v'] hr' (.cons hv' .nil) j nx h
    ⟨R.still S, Fr.still hi nx.n j pv S, Nat.le_refl _, R.lt, fun p b hp => R.pvlt hp, fun k r hk => by obtain ⟨es, n, he⟩ := R.maps.kind k r hk; exact (Array.getElem?_eq_some_iff.1 he).1⟩ hn
  rw [hd] at hv2
  cases hv2 with
  | cons h1 h2 => exact ⟨v', j2, rfl, R2, F2, h1⟩
end Go.Proofs.YtnoekfkfinjfgaaGreatDoor.Dx

set_option autoImplicit false
set_option linter.unusedSectionVars false
set_option linter.unusedSimpArgs false
noncomputable section
namespace Go.Proofs.YtnoekfkfinjfgaaGreatDoor.Dx
open Go
variable [Rho]

def memN (n : Nat) : List Nat → Bool
  | [] => false
  | m :: l => Nat.beq m n || memN n l
def memP (p : P) : List P → Bool
  | [] => false
  | q :: l => Nat.beq q.n p.n || memP p l
theorem memP_iff (p : P) : ∀ l : List P, memP p l = true ↔ p ∈ l
  | [] => by simp [memP]
  | q :: l => by
    simp only [memP, Bool.or_eq_true, Nat.beq_eq, memP_iff p l, List.mem_cons]
    constructor
    · rintro (h | h)
      · exact .inl (P.n_inj h).symm
      · exact .inr h
    · rintro (h | h)
      · exact .inl (by rw [h])
      · exact .inr h
/-- The temporaries that hold variables of the frame. -/
def vars (Ls : List Nat) (p : P) : Prop := memN p.n Ls = true

def okDst (Ls : List Nat) (N : Nat) : Option P → Option Nat → Bool
  | none, none => true
  | some d, some t => Nat.beq d.n t && Nat.ble (Nat.succ t) N && !memN t Ls
  | _, _ => false
def okGuard (os : List Oper) : Option (P × Bool) → Option (Nat × Bool) → Bool
  | none, none => true
  | some (p, b), some (j, b') => (match os[j]? with | some o => (match o.dst with | some t => Nat.beq p.n t | none => false) | none => false) && beqB b b'
  | _, _ => false
def chkCall (i : Ins) (op : Go.Op) : Bool :=
  match op with
  | .call ⟨.value x, args, _⟩ => match i with
    | .call f xs => chkOpd (.c (.fn f [])) x && chkOpds xs args.toList
    | .callv f xs => chkOpd f x && chkOpds xs args.toList
    | _ => false
  | _ => false
def okLoc (Ls : List Nat) (N : Nat) (p : P) (o : Oper) : Bool :=
  (match o.dst with | some t => Nat.beq p.n t && Nat.ble (Nat.succ t) N && memN t Ls | none => false) && (match o.guard with | none => true | some _ => false)
def chkOp (Pr : Program) (Ls : List Nat) (N : Nat) (os : List Oper) (o : Op) (o' : Oper) : Bool :=
  match o with
  | .mk dst g i => okDst Ls N dst o'.dst && okGuard os g o'.guard && (chkIns Pr i o'.op || chkCall i o'.op)
  | .loc p z => okLoc Ls N p o' && chkMem Pr (.al z) o'.op
  | .locb p x => okLoc Ls N p o' && chkMem Pr (.bx x) o'.op
def chkOps (Pr : Program) (Ls : List Nat) (N : Nat) (os : List Oper) : List Op → List Oper → Bool
  | [], [] => true
  | o :: l, o' :: l' => chkOp Pr Ls N os o o' && chkOps Pr Ls N os l l'
  | _, _ => false

/-! an order that is left open -/

def edges (o : Oper) : List Nat := (o.after.toList.filter fun e => Region.binds .any e).map (·.on)
/-- what stands ahead of an operation, as bits -/
def maskOf (acc : List Nat) : List Nat → Nat
  | [] => 0
  | i :: l => Nat.lor (Nat.lor (Nat.shiftLeft 1 i) (acc.getD i 0)) (maskOf acc l)
def maskAll : List Oper → List Nat → List Nat
  | [], acc => acc
  | o :: l, acc => maskAll l (acc ++ [maskOf acc (edges o)])
def isLoad : Ins → Bool
  | .ld _ | .lda _ _ | .vla _ _ => true
  | _ => false
/-- it looks at a variable of the frame alone -/
def isVl : Ins → Bool
  | .vla _ _ => true
  | _ => false
theorem vl_load {i : Ins} (h : isVl i = true) : isLoad i = true := by cases i <;> first | rfl | cases h
theorem load_vl {i : Ins} (h : isLoad i = false) : isVl i = false := by cases i <;> first | rfl | cases h
theorem vl_pure {i : Ins} (h : isVl i = true) : isPure i = false := by cases i <;> first | rfl | cases h
/-- it moves nothing -/
def stillO : Op → Bool
  | .mk _ _ i => isPure i || isLoad i
  | _ => false
/-- it makes a variable -/
def isVarO : Op → Bool
  | .mk _ _ _ => false
  | _ => true
/-- it looks at no memory -/
def blindO : Op → Bool
  | .mk _ _ i => isPure i || isVl i
  | _ => false
/-- it makes a row anew of values alone -/
def isBsl : Ins → Bool
  | .bsl _ _ _ _ => true
  | _ => false
def newO : Op → Bool
  | .mk _ _ i => isBsl i
  | _ => false
def isN : Dop → Bool
  | .mk _ _ _ _ o => newO o
def isW : Dop → Bool
  | .mk _ _ _ r o => !r && !stillO o && !isVarO o && !newO o
def isM : Dop → Bool
  | .mk _ _ _ _ o => !blindO o
def usesD : Dop → List P
  | .mk _ u _ _ _ => u
def backD : Dop → List P
  | .mk _ _ b _ _ => b
def anyP (l m : List P) : Bool := l.any fun p => memP p m
/-- may the two not be exchanged, for what they turn in the frame? -/
def clashE (x y : Dop) : Bool := anyP (backD x) (usesD y) || anyP (usesD x) (backD y) || anyP (backD x) (backD y)
/-- may the two, the first one ahead in the text, not be exchanged? -/
def clash (x y : Dop) : Bool := (isW x && (isM y && !isN y)) || (isM x && isW y) || clashE x y
def ordRow (y : Dop) (m : Nat) : List Dop → Nat → Bool
  | [], _ => true
  | x :: l, i => (!clash x y || Nat.testBit m i) && ordRow y m l (Nat.succ i)
def ordAll (ms : List Nat) (all : List Dop) : List Dop → Nat → Bool
  | [], _ => true
  | y :: l, k => ordRow y (ms.getD k 0) (all.take k) 0 && ordAll ms all l (Nat.succ k)
def dstO : Op → List P
  | .mk (some d) _ _ => [d]
  | .mk none _ _ => []
  | .loc p _ => [p]
  | .locb p _ => [p]
def allIn (f : P → Bool) : List P → Bool
  | [] => true
  | p :: l => f p && allIn f l
def okDop (Ls : List Nat) : Dop → Bool
  | .mk c u b _ o => c && (!isVarO o || allIn (fun p => memP p u) (dstO o)) && allIn (fun p => memP p b) (dstO o) && allIn (fun p => memP p u || memP p (dstO o)) b && (stillO o || isVarO o || allIn (fun p => !memN p.n Ls || memP p b) u)
def opD : Dop → Op
  | .mk _ _ _ _ o => o
def edgesOk : List Oper → Nat → Bool
  | [], _ => true
  | o :: l, k => (edges o).all (fun i => Nat.ble (Nat.succ i) k) && edgesOk l (Nat.succ k)
def chkDrw (Pr : Program) (Ls : List Nat) (N : Nat) (ds : List Dop) (os : List Oper) : Bool :=
  chkOps Pr Ls N os (ds.map opD) os && ds.all (okDop Ls) && edgesOk os 0 && ordAll (maskAll os []) ds ds 0

/-- The code keeps a variable, where it is one. -/
def keepsP (p : P) : C → Bool
  | .seq a b => keepsP p a && keepsP p b
  | .cond _ a b => keepsP p a && keepsP p b
  | .block _ a => keepsP p a
  | .loop lv a => memP p lv && keepsP p a
  | .rng lv _ _ _ _ _ => memP p lv
  | _ => true
def chkC (Pr : Program) (Ls : List Nat) (N : Nat) : C → Code → Bool
  | .skip, .skip => true
  | .skip, .label _ => true
  | .reg ops, .region _ os false => chkOps Pr Ls N os.toList ops os.toList
  | .drw ds, .region _ os true => chkDrw Pr Ls N ds os.toList
  | .seq a b, .seq a' b' => chkC Pr Ls N a a' && chkC Pr Ls N b b'
  | .cond c a b, .cond c' a' b' => chkOpd c c' && chkC Pr Ls N a a' && chkC Pr Ls N b b'
  | .block id a, .block id' a' => Nat.beq id id' && chkC Pr Ls N a a'
  | .loop _ a, .loop a' => chkC Pr Ls N a a'
  | .exit id, .exit id' => Nat.beq id id'
  | .ret, .ret => true
  | .rng lv g pi pv a b, .rangeFunc g' ⟨[i, v]⟩ a' b' => chkOpd g g' && Nat.beq pi.n i && Nat.beq pv.n v && !memN pi.n Ls && !memN pv.n Ls && Nat.ble (Nat.succ pi.n) N && Nat.ble (Nat.succ pv.n) N && !Nat.beq pi.n pv.n && chkC Pr Ls N a a' && chkC Pr Ls N b b' && allIn (fun p => keepsP p a && keepsP p b) lv
  | .bad, _ => true
  | _, _ => false

/-- The parameters stand first. -/
def okPs : List P → Nat → Bool
  | [], _ => true
  | p :: l, i => Nat.beq p.n i && okPs l (Nat.succ i)
theorem okPs_get : ∀ (ps : List P) (k : Nat), okPs ps k = true → ∀ (i : Nat) (p : P), ps[i]? = some p → p.n = k + i
  | [], k, h, i, p, hi => by simp at hi
  | q :: ps, k, h, i, p, hi => by
    simp only [okPs, Bool.and_eq_true, Nat.beq_eq] at h
    cases i with
    | zero => simp at hi; subst hi; omega
    | succ i => have := okPs_get ps (k + 1) h.2 i p (by simpa using hi); omega
def chkFd (Pr : Program) (Ls : List Nat) (fn : Func) (fd : Fd) : Bool :=
  match fd, fn.body with
  | .mk ps body rs, some c => okPs ps 0 && Nat.ble ps.length fn.ntmps && chkC Pr Ls fn.ntmps body c && chkRs Pr rs fn.results.toList && (fn.name != "runtime.NumGoroutine")
  | _, _ => false

def exitOf : Out → Exit
  | .norm => .normal
  | .exit id => .exit id
  | .ret => .ret

/-- A loop that is on its way. -/
def LoopWp (Pr : Program) (r : Option Nat) (c : Code) (Q : Exit → Act → World → Prop) (a : Act) (w : World) : Prop :=
  ∀ (b : Frame) (k : List Item) (cs : List Frame), b.roundOf = r → ∃ e a' w', Q e a' w' ∧ ArrivesIn (Machine.fenced Pr (FW r)) Pr (lone (b.atR a (.code c :: .inLoop c :: k)) cs w) b k cs e a' w'
def cwp (Pr : Program) (r : Option Nat) (c : Code) (Q : Exit → Act → World → Prop) (a : Act) (w : World) : Prop :=
  match c with
  | .loop c => LoopWp Pr r c Q a w
  | c => c.wpIn (FW r) 0 Pr Q a w
theorem LoopWp.loop {Pr : Program} {r : Option Nat} {c : Code} {Q : Exit → Act → World → Prop} {a : Act} {w : World} (h : LoopWp Pr r c Q a w) : (Code.loop c).wpIn (FW r) 0 Pr Q a w :=
  fun b k cs hro _ _ => let ⟨e, a', w', hq, harr⟩ := h b k cs hro; ⟨e, a', w', hq, .of_steps (.one (fenced_FW r Pr _) stepR_loop) harr⟩
theorem LoopWp.round {Pr : Program} {r : Option Nat} {c : Code} {Q : Exit → Act → World → Prop} {a : Act} {w : World} (h : c.wpIn (FW r) 0 Pr (Exit.then (LoopWp Pr r c Q) Q) a w) : LoopWp Pr r c Q a w := by
  intro b k cs hro
  obtain ⟨e, a₁, w₁, hq, harr⟩ := h b (.inLoop c :: k) cs hro trivial (FW_room _ _)
  cases e with
  | normal =>
    obtain ⟨e₂, a₂, w₂, hq₂, harr₂⟩ := hq b k cs hro
    exact ⟨e₂, a₂, w₂, hq₂, .of_steps (StepsIn.trans harr (.one (fenced_FW r Pr _) stepR_inLoop)) harr₂⟩
  | exit id => exact ⟨_, a₁, w₁, hq, .pass (x := .inLoop c) rfl (fun _ _ => .inl (by simp)) harr⟩
  | goto l => exact ⟨_, a₁, w₁, hq, .pass (x := .inLoop c) rfl (fun _ _ => .inl (by simp)) harr⟩
  | ret => exact ⟨_, a₁, w₁, hq, .pass (x := .inLoop c) rfl (fun _ _ => .inl (by simp)) harr⟩
  | panic ch => exact ⟨_, a₁, w₁, hq, .pass (x := .inLoop c) rfl (fun _ _ => .inl (by simp)) harr⟩
  | outgrown => exact ⟨_, a₁, w₁, hq, .pass (x := .inLoop c) rfl (fun _ _ => .inl (by simp)) harr⟩
theorem cwp_wp {Pr : Program} {r : Option Nat} {c : Code} {Q : Exit → Act → World → Prop} {a : Act} {w : World} (h : cwp Pr r c Q a w) : c.wpIn (FW r) 0 Pr Q a w := by
  cases c <;> first | exact h | exact LoopWp.loop h

structure MovesC (wm : Option P) (nx : P) (h : Hp) (nx' : P) (h' : Hp) : Prop where
  le : nx.n ≤ nx'.n
  old : ∀ m, wm = some m → m.n ≤ nx.n → ∀ k : P, k.n < m.n → Tr.get? k h' = Tr.get? k h
  top : (∀ k : P, nx.n ≤ k.n → Tr.get? k h = none) → ∀ k : P, nx'.n ≤ k.n → Tr.get? k h' = none
theorem MovesC.refl (wm : Option P) (nx : P) (h : Hp) : MovesC wm nx h nx h := ⟨Nat.le_refl _, fun _ _ _ _ _ => rfl, fun h => h⟩
theorem MovesC.trans {wm : Option P} {nx nx' nx'' : P} {h h' h'' : Hp} (m1 : MovesC wm nx h nx' h') (m2 : MovesC wm nx' h' nx'' h'') : MovesC wm nx h nx'' h'' :=
  ⟨Nat.le_trans m1.le m2.le, fun m hm hmn k hk => by rw [m2.old m hm (Nat.le_trans hmn m1.le) k hk, m1.old m hm hmn k hk], fun ht => m2.top (m1.top ht)⟩
theorem Moves.c {wm : Option P} {e : Env} {nx : P} {h : Hp} {e' : Env} {nx' : P} {h' : Hp} (m : Moves wm e nx h e' nx' h') : MovesC wm nx h nx' h' := ⟨m.le, m.old, m.top⟩
theorem MovesC.m {wm : Option P} {nx : P} {h : Hp} {nx' : P} {h' : Hp} (m : MovesC wm nx h nx' h') (e : Env) : Moves wm e nx h e nx' h' := ⟨m.le, fun _ => .inl rfl, m.old, m.top⟩

/-- The variables' blocks stay. -/
def PvK (pv pv' : P → Option Nat) : Prop := ∀ p b, pv p = some b → pv' p = some b
/-- A piece of code's way, beside Go's. -/
def CodeOk (Pr : Program) (Ls : List Nat) (N : Nat) (c0 : C) (c : Code) (e : Env) (nx : P) (h : Hp) (out : Out) (e' : Env) (nx' : P) (h' : Hp) : Prop :=
  ∀ (hi : Nat) (j : J) (pv : P → Option Nat) (a : Act) (w : World) (r : Option Nat) (base : Nat), Rel (vars Ls) N hi j pv e nx h a w → InRec r hi j pv w → base ≤ w.heap.size → Dfr base hi j pv w a.defers → nx'.n ≤ hi → ∀ Q : Exit → Act → World → Prop,
    (∀ j' pv' a' w', Rel (vars Ls) N hi j' pv' e' nx' h' a' w' → Fr hi nx.n j pv w j' pv' w' → Dfr base hi j' pv' w' a'.defers → (∀ p b, keepsP p c0 = true → pv p = some b → pv' p = some b) → Q (exitOf out) a' w') → cwp Pr r c Q a w
def IhOk (Pr : Program) (ih : Ih) : Prop := ∀ (c : C) (wm : Option P) (e : Env) (nx : P) (h : Hp) (out : Out) (e' : Env) (nx' : P) (h' : Hp), ih c wm e nx h = .ok out e' nx' h' →
  ∀ (Ls : List Nat) (N : Nat) (c' : Code), chkC Pr Ls N c c' = true → MovesC wm nx h nx' h' ∧ CodeOk Pr Ls N c c' e nx h out e' nx' h'

section
variable {Pr : Program} {F : Tr Fd} {ih : Ih} {wm : Option P} {e0 : Env} {nx : P} {h : Hp} {k : Kv} {out : Out} {eo : Env} {no : P} {ho : Hp}

/-- A call's way. -/
def CallOk (Pr : Program) (f : P) (vs : List DV) (nx : P) (h : Hp) (v : DV) (nx' : P) (h' : Hp) : Prop :=
  ∀ (L : P → Prop) (N hi : Nat) (j : J) (pv : P → Option Nat) (e : Env) (a : Act) (w : World), Rel L N hi j pv e nx h a w → nx'.n ≤ hi → ∀ args : List Value, VRt j vs args →
    Calls Pr f.n args.toArray w fun r w' => ∃ v' j', r = .returned v' ∧ Rel L N hi j' pv e nx' h' a w' ∧ Fr hi nx.n j pv w j' pv w' ∧ VR j' v v'
/-- A function that is told by what it does does that. -/
def PrimOk (Pr : Program) (f : P) (n : Nat) : Prop :=
  (∃ fn, Pr.funcs[f.n]? = some fn ∧ (fn.name == "runtime.NumGoroutine") = false ∧ fn.body.isNone = false) ∧
  ∀ (wm : Option P) (vs : List DV) (nx : P) (h : Hp) (v : DV) (nx' : P) (h' : Hp), primV n wm vs nx h = some (v, nx', h') → CallOk Pr f vs nx h v nx' h' ∧ MovesC wm nx h nx' h'
/-- The function is there, and has a body. -/
def FnOk (Pr : Program) (f : Nat) : Prop := ∃ fn, Pr.funcs[f]? = some fn ∧ (fn.name == "runtime.NumGoroutine") = false ∧ fn.body.isNone = false
/-- A function that calls another one once: where it has been called, nothing is done; else it is called, the lock held. -/
def OncOk (Pr : Program) (f : P) : Prop :=
  FnOk Pr f.n ∧
  (∀ (b o : Nat) (x : Int) (fv : Value) (w : World), w.cell? ⟨b, o, none⟩ = some (.int .u32 x) → x ≠ 0 → Calls Pr f.n #[.pointer (some ⟨b, o, none⟩), fv] w fun r w' => r = .returned (.tuple #[]) ∧ w' = w) ∧
  ∀ (b o g : Nat) (pre cs : List Value) (w : World) (R : Ending → World → Prop), w.cell? ⟨b, o, none⟩ = some (.int .u32 0) → w.frozen? ⟨b, o, none⟩ = false → w.cell? ⟨b, o + 1, none⟩ = some (.int .i32 0) → w.frozen? ⟨b, o + 1, none⟩ = false → FnOk Pr g →
    Calls Pr g (pre ++ cs).toArray (w.setCell ⟨b, o + 1, none⟩ (.int .i32 1)) R →
    (∀ r w2, R r w2 → ∃ v, r = .returned v ∧ w2.cell? ⟨b, o, none⟩ = some (.int .u32 0) ∧ w2.frozen? ⟨b, o, none⟩ = false ∧ w2.cell? ⟨b, o + 1, none⟩ = some (.int .i32 1) ∧ w2.frozen? ⟨b, o + 1, none⟩ = false) →
    Calls Pr f.n #[.pointer (some ⟨b, o, none⟩), .func (.func g) pre.toArray cs.toArray] w fun r w' => r = .returned (.tuple #[]) ∧ ∃ v w2, R (.returned v) w2 ∧ w' = (w2.drew.setCell ⟨b, o, none⟩ (.int .u32 1)).setCell ⟨b, o + 1, none⟩ (.int .i32 0)
def elemV (agg : Bool) (vs : List Value) : Value := match agg with | true => .agg vs.toArray | false => vs.headD undef
/-- What goes backward through a row: it yields each place, what stands there. -/
def ItbOk (Pr : Program) (f : P) (sz : Nat) (agg : Bool) : Prop :=
  FnOk Pr f.n ∧ (agg = false → sz = 1) ∧
  ∀ (l : Nat) (box : Addr) (I : Nat → World → Prop) (n : Nat) (w : World), n ≤ 1099511627776 → (∃ s cap, w.cell? box = some (.slice s n cap)) → I n w →
    (∀ i W, I (i + 1) W → ∃ b off m cap vs, W.cell? box = some (.slice (some ⟨b, off, none⟩) m cap) ∧ i < m ∧ vs.length = sz ∧ (∀ q v, vs[q]? = some v → W.cell? ⟨b, off + i * sz + q, none⟩ = some v) ∧
      YieldAt (FW none) 0 Pr l #[.int .i64 (i : Int), elemV agg vs] W fun e W' => e = .returned (.bool true) ∧ I i W') →
    CallsIn (FW none) 0 Pr f.n #[.func (.yield l) #[] #[], .pointer (some box)] w fun e W' => (∃ v, e = .returned v) ∧ I 0 W'
/-- The functions that the small machine has are Go's. -/
def FdOk (Pr : Program) (f : P) : Fd → Prop
  | .mk ps body rs => ∃ fn Ls, Pr.funcs[f.n]? = some fn ∧ chkFd Pr Ls fn (.mk ps body rs) = true
  | .prim n => PrimOk Pr f n
  | .onc => OncOk Pr f
  | .itb sz agg => ItbOk Pr f sz agg
  | .tab gl l => FnOk Pr f.n ∧ gl.length = GN ∧ ∀ p ∈ l, TabOk Pr f gl p.1 p.2
def FOk (Pr : Program) (F : Tr Fd) : Prop := ∀ f fd, Tr.get? f F = some fd → FdOk Pr f fd
theorem binds_length : ∀ (ps : List P) (vs : List DV) (e0 e : Env), binds ps vs e0 = some e → ps.length = vs.length
  | [], [], e0, e, h => rfl
  | [], _ :: _, e0, e, h => by simp [binds] at h
  | _ :: _, [], e0, e, h => by simp [binds] at h
  | q :: ps, u :: vs, e0, e, h => by simp only [binds] at h; simp [binds_length ps vs _ e h]
/-- What stands among the deferred calls alone are marks: they are taken off. -/
theorem leaves_marks {L' : P → Prop} {N' : Nat} {fn : Func} {R : Ending → World → Prop} {hi n : Nat} {j j' : J} {pv pv' : P → Option Nat} {e' : Env} {nx' : P} {h' : Hp} {a' : Act} {w0 : World} : ∀ (Ds : List Nat) {w : World}, Ds.Nodup → (∀ D ∈ Ds, w0.heap.size ≤ D ∧ w.heap[D]? = some (.deferred (some []))) →
    Rel L' N' hi j' pv' e' nx' h' a' w → Fr hi n j pv w0 j' pv' w → (∀ w3, Rel L' N' hi j' pv' e' nx' h' a' w3 → Fr hi n j pv w0 j' pv' w3 → ∃ v, (results fn a'.tmps).run Pr w3 = .ok v w3 ∧ R (.returned v) w3) →
    LeavesInM (FW none) 0 Pr fn a'.tmps R (Ds.map fun D => { target := .collected D, args := #[] }) .returning w
  | [], w, _, _, R1, F1, h => h w R1 F1
  | D :: Ds, w, hnd, hall, R1, F1, h => by
    obtain ⟨h1, h2⟩ := hall D (by simp)
    rw [List.nodup_cons] at hnd
    refine ⟨by simp, .inl ⟨D, _, rfl, run_takeDeferred h2, ?_⟩⟩
    refine leaves_marks Ds hnd.2 (fun D' hD' => ⟨(hall D' (by simp [hD'])).1, ?_⟩) (R1.putObj _ h2 rfl rfl) (F1.putObj _ h2 rfl rfl h1) h
    rw [put_other (by rintro rfl; exact hnd.1 hD')]
    exact (hall D' (by simp [hD'])).2
/-- What is known of a call. -/
def CallSim (Pr : Program) (wm : Option P) (e0 : Env) (nx : P) (h : Hp) (f : P) (vs : List DV) (k : Kv) (r : Res) : Prop :=
  ∃ v nx' h', k e0 v nx' h' = r ∧ CallOk Pr f vs nx h v nx' h' ∧ MovesC wm nx h nx' h' ∧ FnOk Pr f.n
theorem tabs_sim {f : P} {vs : List DV} {gl : List (List DV)} (hfn : FnOk Pr f.n) (hl : gl.length = GN) (hg : ∀ i g, gl[i]? = some g → ∀ q : P, q.n = P.n .z + i → ∃ c, blkR h q c ∧ EqP g c) :
    ∀ l : List (T × T), (∀ p ∈ l, TabOk Pr f gl p.1 p.2) → tabC vs e0 nx h k l = .ok out eo no ho → CallSim Pr wm e0 nx h f vs k (.ok out eo no ho)
  | [], _, H => by cases H
  | p :: l, hall, H => by
    change rdT p.1 h vs (tabC vs e0 nx h k l) (fun _ => lyT p.2 nx h fun ds nx h => onL ds .fail fun d => k e0 d nx h) = _ at H
    rcases rdT_or p.1 h vs (tabC vs e0 nx h k l) (fun _ => lyT p.2 nx h fun ds nx h => onL ds .fail fun d => k e0 d nx h) with h1 | ⟨h1, h2⟩
    · rw [h1] at H
      exact tabs_sim hfn hl hg l (fun q hq => hall q (by simp [hq])) H
    · rw [h2, lyT_eq] at H
      rcases onL_or (l := (ly p.2 nx h).1) (F := .fail) (G := fun d => k e0 d (ly p.2 nx h).2.1 (ly p.2 nx h).2.2) with h3 | ⟨d, h3, h4⟩
      · rw [h3] at H; cases H
      · rw [h4] at H
        obtain ⟨m1, m2, m3⟩ := ly_moves p.2 wm nx h
        exact ⟨d, _, _, H, fun L N hi j pv e a w R hn args hargs => tab_sim (hall p (by simp)) hl hg h1 h3 L N hi j pv e a w R hn args hargs, ⟨m1, m2, m3⟩, hfn⟩
theorem tab1_sim {f : P} {vs : List DV} {gl : List (List DV)} {l : List (T × T)} (hfd : FdOk Pr f (.tab gl l)) (H : callT vs e0 nx h k gl l = .ok out eo no ho) : CallSim Pr wm e0 nx h f vs k (.ok out eo no ho) := by
  obtain ⟨hfn, hl, hall⟩ := hfd
  unfold callT at H
  rcases gchk_or gl .z h .fail (fun _ => tabC vs e0 nx h k l) with h1 | ⟨h1, h2⟩
  · rw [h1] at H; cases H
  · rw [h2] at H
    exact tabs_sim hfn hl h1 l hall H
theorem g_sim {f : P} {vs : List DV} {fd : Fd} (hfd : FdOk Pr f fd) (hih : IhOk Pr ih) (H : callG ih wm vs e0 nx h k fd = .ok out eo no ho) : CallSim Pr wm e0 nx h f vs k (.ok out eo no ho) := by
  rcases fd with ⟨ps, body, rs⟩ | n | _ | ⟨sz, agg⟩ | ⟨gl, l⟩
  rotate_left 2
  · cases H
  · cases H
  · exact tab1_sim hfd H
  rotate_left
  · change primO e0 k (primV n wm vs nx h) = _ at H
    cases hp : primV n wm vs nx h with
    | none => rw [hp] at H; cases H
    | some r =>
      obtain ⟨v, nx', h'⟩ := r
      rw [hp] at H
      obtain ⟨hfn, hall⟩ := hfd
      obtain ⟨h1, h2⟩ := hall wm vs nx h v nx' h' hp
      exact ⟨v, nx', h', H, h1, h2, hfn⟩
  obtain ⟨fn, Ls, hfn, hc⟩ := hfd
  change bindK ps vs .nl (fun e => retR (ih body wm e nx h) rs e0 k) = _ at H
  rw [bindK_eq] at H
  cases hb : binds ps vs .nl with
  | none => simp only [hb, reduceCtorEq] at H
  | some e1 =>
    simp only [hb] at H
    cases hr : ih body wm e1 nx h with
    | fail => rw [hr] at H; cases H
    | ok o1 e2 nx2 h2 =>
      rw [hr] at H
      have hret : (o1 = .norm ∨ o1 = .ret) ∧ rsL rs e2 h2 (fun vs => oneK vs fun v => fV v fun v => k e0 v nx2 h2) = .ok out eo no ho := by
        cases o1 with
        | norm => exact ⟨.inl rfl, H⟩
        | ret => exact ⟨.inr rfl, H⟩
        | exit id => cases H
      obtain ⟨ho1, H⟩ := hret
      rw [rsL_eq] at H
      cases hrs : rsv e2 h2 rs with
      | none => simp only [hrs, reduceCtorEq] at H
      | some vs2 =>
        simp only [hrs, oneK_eq, fV_eq] at H
        cases hbody : fn.body with
        | none => simp [chkFd, hbody] at hc
        | some c =>
          simp only [chkFd, hbody, Bool.and_eq_true, Nat.ble_eq] at hc
          obtain ⟨⟨⟨⟨hps, hlen⟩, hcc⟩, hrc⟩, hname⟩ := hc
          obtain ⟨hm, hcode⟩ := hih _ _ _ _ _ _ _ _ _ hr Ls fn.ntmps c hcc
          refine ⟨one vs2, nx2, h2, H, ?_, hm, fn, hfn, by simpa using hname, by rw [hbody]; rfl⟩
          intro L N hi j pv e a w R hnh args hargs
          have hal : args.length ≤ fn.ntmps := by rw [← hargs.length, ← binds_length ps vs _ _ hb]; exact hlen
          have R1 := R.enter hb hargs (fun i p hp => by have := okPs_get ps 0 hps i p hp; omega) hal (vars Ls)
          refine callsIn_wide.1 (callsIn_of_wp_marks (F := FW none) (n := 0) hfn hbody trivial (cwp_wp (hcode hi j _ _ w none w.heap.size R1 (InRec.none _ _ _ _) (Nat.le_refl _) (Dfr.nil _ _ _ _ _) hnh _ ?_)))
          intro j' pv' a' w' R2 F2 hd _
          obtain ⟨Ds, hds, hnd, hall⟩ := hd
          have fin : LeavesInM (FW none) 0 Pr fn a'.tmps (fun r w' => ∃ v' j', r = .returned v' ∧ Rel L N hi j' pv e nx2 h2 a w' ∧ Fr hi nx.n j pv w j' pv w' ∧ VR j' (one vs2) v') a'.defers .returning w' := by
            rw [hds]
            refine leaves_marks Ds hnd (fun D hD => ⟨(hall D hD).1, (hall D hD).2.1⟩) R2 F2 ?_
            intro w3 R2 F2
            obtain ⟨v', hrun, hv⟩ := R2.results hrc hrs
            obtain ⟨R3, F3⟩ := R.leave R2 F2
            exact ⟨v', hrun, v', j', rfl, R3, F3, hv⟩
          rcases ho1 with rfl | rfl
          · exact fin
          · exact fin
theorem call1_sim (hF : FOk Pr F) (hih : IhOk Pr ih) {f : P} {vs : List DV} (H : call1 F ih wm e0 f vs nx h k = .ok out eo no ho) : CallSim Pr wm e0 nx h f vs k (.ok out eo no ho) := by
  unfold call1 at H
  cases hf : Tr.get? f F with
  | none => rw [hf] at H; cases H
  | some fd => rw [hf] at H; exact g_sim (hF f fd hf) hih H
theorem chkT {b : Bool} {K : Unit → Res} (H : chk b K = .ok out eo no ho) : b = true ∧ K () = .ok out eo no ho := by
  cases b with
  | true => exact ⟨rfl, H⟩
  | false => cases H
theorem asI_int {v : DV} {K : IntKind → Int → Res} (H : asI v .fail K = .ok out eo no ho) : ∃ k n, v = .int k n ∧ K k n = .ok out eo no ho := by
  rw [asI_eq] at H
  cases v <;> simp only [reduceCtorEq] at H
  exact ⟨_, _, rfl, H⟩
theorem asI_chk {j : IntKind} {v : DV} {K : IntKind → Int → Unit → Res} (H : asI v .fail (fun k n => chk (sameK k j) (K k n)) = .ok out eo no ho) : ∃ n, v = .int j n ∧ K j n () = .ok out eo no ho := by
  replace H := asI_int H
  obtain ⟨k, n, rfl, H⟩ := H
  replace H := chkT H
  obtain ⟨hk, H⟩ := H
  have := sameK_eq hk; subst this
  exact ⟨n, rfl, H⟩
theorem nthK_get {l : List DV} {i : Nat} {K : DV → Res} (H : nthK l i .fail K = .ok out eo no ho) : ∃ v, l[i]? = some v ∧ K v = .ok out eo no ho := by
  rw [nthK_eq] at H
  cases hv : l[i]? with
  | none => simp only [hv, reduceCtorEq] at H
  | some v => rw [hv] at H; exact ⟨v, rfl, H⟩
theorem ownK_get {b : P} {K : List DV → Res} (H : ownK b h .fail K = .ok out eo no ho) : ∃ l, Tr.get? b h = some (.cells l) ∧ K l = .ok out eo no ho := by
  rw [ownK_eq] at H
  cases hg : Tr.get? b h with
  | none => simp only [hg, reduceCtorEq] at H
  | some ob => cases ob <;> simp only [hg, reduceCtorEq] at H; exact ⟨_, rfl, H⟩
theorem objK_get {b : P} {K : List DV → Res} (H : objK b h .fail K = .ok out eo no ho) : ∃ l, (Tr.get? b h = some (.cells l) ∨ Tr.get? b h = some (.ro l)) ∧ K l = .ok out eo no ho := by
  rw [objK_eq] at H
  cases hg : Tr.get? b h with
  | none => simp only [hg, reduceCtorEq] at H
  | some ob =>
    cases ob <;> simp only [hg, reduceCtorEq] at H
    · exact ⟨_, .inl rfl, H⟩
    · exact ⟨_, .inr rfl, H⟩
theorem sprK_get {o : Nat} {l vs : List DV} {K : List DV → Res} (H : sprK o l vs .fail K = .ok out eo no ho) : o + vs.length ≤ l.length ∧ K (l.take o ++ vs ++ l.drop (o + vs.length)) = .ok out eo no ho := by
  rw [sprK_eq] at H
  by_cases h1 : o + vs.length ≤ l.length
  · rw [if_pos h1] at H; exact ⟨h1, H⟩
  · rw [if_neg h1] at H; cases H
theorem wOk_may {b : P} {K : Unit → Res} (H : wOk wm b .fail K = .ok out eo no ho) : may wm b ∧ K () = .ok out eo no ho := by
  rw [wOk_eq] at H
  by_cases h1 : may wm b
  · rw [if_pos h1] at H; exact ⟨h1, H⟩
  · rw [if_neg h1] at H; cases H
/-- The cells of a block that may be written, as they lie. -/
theorem Rel.own_at {L : P → Prop} {N hi : Nat} {j : J} {pv : P → Option Nat} {e : Env} {a : Act} {w : World} (R : Rel L N hi j pv e nx h a w) {b : P} {l : List DV} (hg : Tr.get? b h = some (.cells l)) {i : Img} (hj : j b = some i) (hne : i ≠ .dead) (hro : ∀ x s, i ≠ .ro x s) :
    ∃ x s c, i = .at x s c ∧ b.n < nx.n ∧ Lies w x s c ∧ s + l.length ≤ c ∧ CellsAt j w x s l := by
  have hlt : b.n < nx.n := by
    rcases Nat.lt_or_ge b.n nx.n with h' | h'
    · exact h'
    · rw [R.top b h'] at hg; cases hg
  have H := R.heap b i hj hlt
  cases i with
  | dead => exact absurd rfl hne
  | ro x s => exact absurd rfl (hro x s)
  | mp r => obtain ⟨_, _, _, hg', _⟩ := H; rw [hg] at hg'; cases hg'
  | «at» x s c =>
    obtain ⟨h1, l', hg', h2, h3⟩ := H
    rw [hg] at hg'; cases hg'
    exact ⟨x, s, c, rfl, hlt, h1, h2, h3⟩
theorem CellsAt.int {j : J} {w : World} {b s : Nat} {l : List DV} (H : CellsAt j w b s l) {i : Nat} {k : IntKind} {n : Int} (hi : l[i]? = some (.int k n)) : w.cell? ⟨b, s + i, none⟩ = some (.int k n) := by
  obtain ⟨v', h1, h2, _⟩ := H i _ hi
  rw [h2.int_inv] at h1; exact h1
theorem onc_sim (hF : FOk Pr F) (hih : IhOk Pr ih) {f : P} {vs : List DV} (hfd : OncOk Pr f) (H : callO (call1 F ih wm e0) wm vs e0 nx h k = .ok out eo no ho) : CallSim Pr wm e0 nx h f vs k (.ok out eo no ho) := by
  obtain ⟨hfn, hfast, hslow⟩ := hfd
  unfold callO oncN at H
  match vs, H with
  | [], H => cases H
  | [_], H => cases H
  | _ :: _ :: _ :: _, H => cases H
  | [av, fv], H =>
  change asP av .fail (fun b o => onc1 (call1 F ih wm e0) wm e0 nx h k b o fv) = _ at H
  rw [asP_eq] at H
  cases av <;> simp only [reduceCtorEq] at H
  rename_i b o
  unfold onc1 at H
  replace H := objK_get H
  obtain ⟨l, hg, H⟩ := H
  replace H := nthK_get H
  obtain ⟨d, hd, H⟩ := H
  replace H := asI_chk H
  obtain ⟨x, rfl, H⟩ := H
  -- where it stands
  have atc : ∀ {L : P → Prop} {N hi : Nat} {j : J} {pv : P → Option Nat} {e : Env} {a : Act} {w : World}, Rel L N hi j pv e nx h a w → ∀ v', VR j (.ptr b o) v' → ∃ x s, v' = .pointer (some ⟨x, s + o, none⟩) ∧ CellsAt j w x s l ∧ (∀ l', Tr.get? b h = some (.cells l') → ∃ c, j b = some (.at x s c)) := by
    intro L N hi j pv e a w R v' hv
    have hlt : b.n < nx.n := by
      rcases Nat.lt_or_ge b.n nx.n with h' | h'
      · exact h'
      · rcases hg with hg | hg <;> (rw [R.top b h'] at hg; cases hg)
    cases hv with
    | ptrA hj =>
      obtain ⟨_, l', hg', _, hc⟩ := R.heap b _ hj hlt
      have : l' = l := by rcases hg with hg | hg <;> (rw [hg] at hg'; cases hg'); rfl
      subst this
      exact ⟨_, _, rfl, hc, fun _ _ => ⟨_, hj⟩⟩
    | ptrO hj =>
      obtain ⟨l', hg', _, hc⟩ := R.heap b _ hj hlt
      have : l' = l := by rcases hg with hg | hg <;> (rw [hg] at hg'; cases hg'); rfl
      subst this
      refine ⟨_, _, rfl, hc, fun l'' h'' => by rw [hg'] at h''; cases h''⟩
    | ptrD ad hj =>
      have hg' : Tr.get? b h = some .dead := R.heap b _ hj hlt
      rcases hg with hg | hg <;> (rw [hg] at hg'; cases hg')
  cases hx : ieq x (.ofNat (nat_lit 0)) with
  | false =>
    rw [hx] at H
    change k e0 (.tup []) nx h = _ at H
    refine ⟨_, _, _, H, ?_, MovesC.refl _ _ _, hfn⟩
    intro L N hi j pv e a w R hnh args hargs
    cases hargs with
    | cons h1 t1 =>
    cases t1 with
    | cons h2 t2 =>
    cases t2
    obtain ⟨xb, s, rfl, hc, _⟩ := atc R _ h1
    rw [ieq_eq, decide_eq_false_iff_not] at hx
    refine (hfast xb (s + o) x _ w (hc.int hd) hx).mono ?_
    rintro r w' ⟨rfl, rfl⟩
    exact ⟨_, j, rfl, R, Fr.refl _ _ _ _ _, VR.tup (l' := []) .nil⟩
  | true =>
    rw [hx] at H
    change onc2 (call1 F ih wm e0) wm e0 nx h k b o fv l = _ at H
    rw [ieq_eq, decide_eq_true_eq] at hx
    subst hx
    unfold onc2 at H
    replace H := wOk_may H
    obtain ⟨hmay, H⟩ := H
    replace H := ownK_get H
    obtain ⟨l0, hg0, H⟩ := H
    have : l0 = l := by rcases hg with hg | hg <;> (rw [hg0] at hg; cases hg); rfl
    subst this
    replace H := nthK_get H
    obtain ⟨s1, hs1, H⟩ := H
    replace H := asI_chk H
    obtain ⟨y, rfl, H⟩ := H
    replace H := chkT H
    obtain ⟨hy, H⟩ := H
    rw [ieq_eq, decide_eq_true_eq] at hy
    subst hy
    replace H := sprK_get H
    obtain ⟨hle, H⟩ := H
    simp only [Tr.setK_eq] at H
    -- the callee
    have main : ∀ (g : P) (vs1 : List DV), (∀ (j : J) (fv' : Value), VR j fv fv' → ∃ pre cs : List Value, fv' = .func (.func g.n) pre.toArray cs.toArray ∧ VRt j vs1 (pre ++ cs)) →
        call1 F ih wm e0 g vs1 nx (Tr.set b h (some (.cells (l0.take (Nat.succ o) ++ [.int .i32 (.ofNat 1)] ++ l0.drop (Nat.succ o + 1))))) (fun e _ nx h => onc3 e k b o nx h) = .ok out eo no ho →
        CallSim Pr wm e0 nx h f [.ptr b o, fv] k (.ok out eo no ho) := by
      intro g vs1 hfv H
      obtain ⟨v, nx2, h2, H2, hcall, hmv, hfg⟩ := call1_sim hF hih H
      unfold onc3 at H2
      replace H2 := ownK_get H2
      obtain ⟨l2, hg2, H2⟩ := H2
      replace H2 := nthK_get H2
      obtain ⟨d2, hd2, H2⟩ := H2
      replace H2 := asI_chk H2
      obtain ⟨x2, rfl, H2⟩ := H2
      replace H2 := chkT H2
      obtain ⟨hx2, H2⟩ := H2
      rw [ieq_eq, decide_eq_true_eq] at hx2; subst hx2
      replace H2 := nthK_get H2
      obtain ⟨s2, hs2, H2⟩ := H2
      replace H2 := asI_chk H2
      obtain ⟨y2, rfl, H2⟩ := H2
      replace H2 := chkT H2
      obtain ⟨hy2, H2⟩ := H2
      rw [ieq_eq, decide_eq_true_eq] at hy2; subst hy2
      replace H2 := sprK_get H2
      obtain ⟨hle2, H2⟩ := H2
      simp only [Tr.setK_eq] at H2
      refine ⟨_, _, _, H2, ?_, ((Moves.put (e := e0) hmay hg0).c.trans hmv).trans (Moves.put (e := e0) hmay hg2).c, hfn⟩
      intro L N hi j pv e a w R hnh args hargs
      cases hargs with
      | cons h1 t1 =>
      cases t1 with
      | cons h2' t2 =>
      cases t2
      obtain ⟨xb, s, rfl, hc, hat⟩ := atc R _ h1
      obtain ⟨c, hj⟩ := hat _ hg0
      obtain ⟨pre, cs, rfl, hvs1⟩ := hfv j _ h2'
      obtain ⟨_, _, _, he, hlt, hlies, hlen, _⟩ := R.own_at hg0 hj (by simp) (by simp)
      cases he
      have hnh1 : nx.n ≤ hi := Nat.le_trans hmv.le hnh
      obtain ⟨R1, F1⟩ := R.at_store hnh1 hj hlt hg0 (o := Nat.succ o) (vs := [.int .i32 1]) (cl := [.int .i32 (.ofNat 1)]) (.cons (.int _ _) rfl .nil) hle
      have hc1 := hcall L N hi j pv e a _ R1 hnh _ (hvs1)
      have hlo : o + 1 < l0.length := by simp at hle; omega
      refine (hslow xb (s + o) g.n pre cs w _ (hc.int hd) (hlies.free _ (by omega) (by omega)) (by have := hc.int hs1; simpa [Nat.add_assoc] using this) (hlies.free _ (by omega) (by omega)) hfg hc1 ?_).mono ?_
      · rintro r w2 ⟨v', j2, rfl, R2, F2, _⟩
        refine ⟨v', rfl, ?_⟩
        obtain ⟨i2, hi2, hne2, hro2⟩ : ∃ i, j2 b = some i ∧ i ≠ .dead ∧ ∀ x s, i ≠ .ro x s := by
          rcases F2.ext b _ hj with h' | h'
          · exact ⟨_, h', by simp, by simp⟩
          · have hlt2 : b.n < nx2.n := Nat.lt_of_lt_of_le hlt hmv.le
            have : Tr.get? b h2 = some .dead := R2.heap b _ h' hlt2
            rw [hg2] at this; cases this
        obtain ⟨x3, s3, c3, he3, _, hl3, hlen3, hc3⟩ := R2.own_at hg2 hi2 hne2 hro2
        have : x3 = xb ∧ s3 = s := by
          rcases F2.ext b _ hj with h' | h' <;> (rw [hi2, he3] at h'; cases h'); exact ⟨rfl, rfl⟩
        obtain ⟨rfl, rfl⟩ := this
        have hlo2 : o + 1 < l2.length := (List.getElem?_eq_some_iff.1 hs2).1
        exact ⟨hc3.int hd2, hl3.free _ (by omega) (by omega), by have := hc3.int hs2; simpa [Nat.add_assoc] using this, hl3.free _ (by omega) (by omega)⟩
      · rintro r w' ⟨rfl, v0, w2, ⟨v', j2, hv0, R2, F2, _⟩, rfl⟩
        obtain ⟨i2, hi2, hne2, hro2⟩ : ∃ i, j2 b = some i ∧ i ≠ .dead ∧ ∀ x s, i ≠ .ro x s := by
          rcases F2.ext b _ hj with h' | h'
          · exact ⟨_, h', by simp, by simp⟩
          · have hlt2 : b.n < nx2.n := Nat.lt_of_lt_of_le hlt hmv.le
            have : Tr.get? b h2 = some .dead := R2.heap b _ h' hlt2
            rw [hg2] at this; cases this
        obtain ⟨x3, s3, c3, he3, hlt3, hl3, hlen3, hc3⟩ := R2.own_at hg2 hi2 hne2 hro2
        have : x3 = xb ∧ s3 = s := by
          rcases F2.ext b _ hj with h' | h' <;> (rw [hi2, he3] at h'; cases h'); exact ⟨rfl, rfl⟩
        obtain ⟨rfl, rfl⟩ := this
        subst he3
        have R2' := R2.drew (w2.drawn + 1)
        obtain ⟨R3, F3⟩ := R2'.at_store hnh hi2 hlt3 hg2 (o := o) (vs := [.int .u32 1, .int .i32 0]) (cl := [.int .u32 (.ofNat 1), .int .i32 (.ofNat 0)]) (.cons (.int _ _) rfl (.cons (.int _ _) rfl .nil)) hle2
        refine ⟨_, j2, rfl, R3, (F1.trans F2 (Nat.le_refl _)).trans ((Fr.drew hi nx2.n j2 pv w2 (w2.drawn + 1)).trans F3 (Nat.le_refl _)) hmv.le, VR.tup (l' := []) .nil⟩
    rw [asF_eq, asBf_eq] at H
    cases fv <;> simp only [reduceCtorEq] at H
    · rename_i g cs
      refine main g cs (fun j fv' hv => ?_) H
      cases hv
      exact ⟨[], _, rfl, by simpa using ‹VRt _ _ _›⟩
    · rename_i g fs
      refine main g fs (fun j fv' hv => ?_) H
      cases hv
      exact ⟨_, [], rfl, by simpa using ‹VRt _ _ _›⟩
theorem call_sim (hF : FOk Pr F) (hih : IhOk Pr ih) {f : P} {vs : List DV} (H : callK F ih wm f vs e0 nx h k = .ok out eo no ho) :
    ∃ v nx' h', k e0 v nx' h' = .ok out eo no ho ∧ CallOk Pr f vs nx h v nx' h' ∧ MovesC wm nx h nx' h' ∧ ∃ fn, Pr.funcs[f.n]? = some fn ∧ (fn.name == "runtime.NumGoroutine") = false ∧ fn.body.isNone = false := by
  unfold callK at H
  cases hf : Tr.get? f F with
  | none => rw [hf] at H; cases H
  | some fd =>
    rw [hf] at H
    have hfd := hF f fd hf
    cases fd with
    | mk ps body rs => exact g_sim (fd := .mk ps body rs) hfd hih H
    | prim n => exact g_sim (fd := .prim n) hfd hih H
    | onc => exact onc_sim hF hih hfd H
    | itb sz agg => cases H
    | tab gl l => exact tab1_sim hfd H
theorem run_callFunc {f : Nat} {fn : Func} {args : Array Value} {w : World} (hfn : Pr.funcs[f]? = some fn) (hname : (fn.name == "runtime.NumGoroutine") = false) (hbody : fn.body.isNone = false) :
    (callFunc f args).run Pr w = .ok (.enter f args) w := by
  have h1 : fn.name ≠ "runtime.NumGoroutine" := by simpa using hname
  have h2 : fn.body ≠ none := by intro h0; rw [h0] at hbody; cases hbody
  simp [callFunc, hfn, h1, h2]
/-- A call, as an operation. -/
theorem CallOk.op {o : Oper} {f : P} {cs : List DV} {e : Env} {v : DV} {nx' : P} {h' : Hp} {x : Operand} {args : Array Operand} {tys : Array Nat} {xs : List Opd} {vf : Opd} (C : CallOk Pr f (xs.map (fun o => ov o e) ++ cs) nx h v nx' h') (ho : o.op = .call ⟨.value x, args, tys⟩) (hx : chkOpd vf x = true)
    (hfv : ev vf e = .fn f cs) (has : chkOpds xs args.toList = true) {fn : Func} (hfn : Pr.funcs[f.n]? = some fn) (hname : (fn.name == "runtime.NumGoroutine") = false) (hbody : fn.body.isNone = false) : OpOk Pr o e nx h e v nx' h' := by
  intro L N hi j pv a w R hnh K Q hK r
  have r1 := R.reads vf x hx
  rw [hfv] at r1
  obtain ⟨cs', hxe, hcs⟩ := r1.fn
  have r2 := R.reads.ovs xs args.toList has
  have hargs := r2.append hcs
  have hc := C L N hi j pv e a w R hnh _ hargs
  refine oper_FW ?_ (fun c h => by rw [ho] at h; cases h)
  unfold Oper.wp
  have hrun : (execOp a.eval o).run Pr w = .ok (.enter f.n ((args.toList.map a.eval ++ cs').toArray)) w := by
    have h1 : args.map a.eval ++ cs'.toArray = (args.toList.map a.eval ++ cs').toArray := by
      apply Array.toList_inj.1; simp
    simp only [execOp, ho, resolve, hxe, Deferred.ofValue, Sem.run_bind, Sem.run_pure, Result.andThen_ok, invoke]
    rw [← h1]
    simp only [Array.empty_append]
    exact run_callFunc hfn hname hbody
  rw [hrun, Oper.upon_enter]
  refine hc.mono ?_
  rintro _ w' ⟨v', j', rfl, R', F', hv⟩
  exact hK j' w' v' R' F' (XD.of_VR hv)
theorem CallOk.opb {o : Oper} {f : P} {cs : List DV} {e : Env} {v : DV} {nx' : P} {h' : Hp} {x : Operand} {args : Array Operand} {tys : Array Nat} {xs : List Opd} {vf : Opd} (C : CallOk Pr f (cs ++ xs.map (fun o => ov o e)) nx h v nx' h') (ho : o.op = .call ⟨.value x, args, tys⟩) (hx : chkOpd vf x = true)
    (hfv : ev vf e = .bf f cs) (has : chkOpds xs args.toList = true) {fn : Func} (hfn : Pr.funcs[f.n]? = some fn) (hname : (fn.name == "runtime.NumGoroutine") = false) (hbody : fn.body.isNone = false) : OpOk Pr o e nx h e v nx' h' := by
  intro L N hi j pv a w R hnh K Q hK r
  have r1 := R.reads vf x hx
  rw [hfv] at r1
  obtain ⟨cs', hxe, hcs⟩ : ∃ l' : List Value, a.eval x = .func (.func f.n) l'.toArray #[] ∧ VRt j cs l' := by
    have r1' : VR j (.bf f cs) (a.eval x) := r1
    generalize a.eval x = u at r1'
    cases r1'; exact ⟨_, rfl, ‹_›⟩
  have r2 := R.reads.ovs xs args.toList has
  have hargs := hcs.append r2
  have hc := C L N hi j pv e a w R hnh _ hargs
  refine oper_FW ?_ (fun c h => by rw [ho] at h; cases h)
  unfold Oper.wp
  have hrun : (execOp a.eval o).run Pr w = .ok (.enter f.n ((cs' ++ args.toList.map a.eval).toArray)) w := by
    have h1 : cs'.toArray ++ args.map a.eval = (cs' ++ args.toList.map a.eval).toArray := by
      apply Array.toList_inj.1; simp
    simp only [execOp, ho, resolve, hxe, Deferred.ofValue, Sem.run_bind, Sem.run_pure, Result.andThen_ok, invoke]
    rw [← h1]
    simp only [Array.append_empty]
    exact run_callFunc hfn hname hbody
  rw [hrun, Oper.upon_enter]
  refine hc.mono ?_
  rintro _ w' ⟨v', j', rfl, R', F', hv⟩
  exact hK j' w' v' R' F' (XD.of_VR hv)
end
end Go.Proofs.YtnoekfkfinjfgaaGreatDoor.Dx
