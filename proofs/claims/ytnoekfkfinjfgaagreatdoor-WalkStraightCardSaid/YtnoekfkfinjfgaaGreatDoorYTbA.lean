/- What the calls of WalkStraight read, make; strings.Fields, lex.Name by tables. No statement of this seat is proved here. -/
import Derived.Test.YtnoekfkfinjfgaaGreatDoorYCdB
import Derived.KernelRfl
set_option autoImplicit false
set_option linter.unusedSectionVars false
set_option maxRecDepth 100000
noncomputable section
namespace Go.Proofs.YtnoekfkfinjfgaaGreatDoor.Dx
open Go

variable [Rho]
def L (l : List T) : T := List.rec (motive := fun _ => T) .nil (fun a _ ih => .cons a ih) l
def iv (n : Nat) : T := .v (.int .i64 (.ofNat n))
def s0 : T := .v (.str 0 0)
def gl : List (List DV) := [[.int .u8 (.ofNat 0), .int .u8 (.ofNat 0), .int .u8 (.ofNat 0), .int .u8 (.ofNat 0), .int .u8 (.ofNat 0), .int .u8 (.ofNat 0), .int .u8 (.ofNat 0), .int .u8 (.ofNat 0), .int .u8 (.ofNat 0), .int .u8 (.ofNat 1), .int .u8 (.ofNat 1), .int .u8 (.ofNat 1), .int .u8 (.ofNat 1), .int .u8 (.ofNat 1), .int .u8 (.ofNat 0), .int .u8 (.ofNat 0), .int .u8 (.ofNat 0), .int .u8 (.ofNat 0), .int .u8 (.ofNat 0), .int .u8 (.ofNat 0), .int .u8 (.ofNat 0), .int .u8 (.ofNat 0), .int .u8 (.ofNat 0), .int .u8 (.ofNat 0), .int .u8 (.ofNat 0), .int .u8 (.ofNat 0), .int .u8 (.ofNat 0), .int .u8 (.ofNat 0), .int .u8 (.ofNat 0), .int .u8 (.ofNat 0), .int .u8 (.ofNat 0), .int .u8 (.ofNat 0), .int .u8 (.ofNat 1), .int .u8 (.ofNat 0), .int .u8 (.ofNat 0), .int .u8 (.ofNat 0), .int .u8 (.ofNat 0), .int .u8 (.ofNat 0), .int .u8 (.ofNat 0), .int .u8 (.ofNat 0), .int .u8 (.ofNat 0), .int .u8 (.ofNat 0), .int .u8 (.ofNat 0), .int .u8 (.ofNat 0), .int .u8 (.ofNat 0), .int .u8 (.ofNat 0), .int .u8 (.ofNat 0), .int .u8 (.ofNat 0), .int .u8 (.ofNat 0), .int .u8 (.ofNat 0), .int .u8 (.ofNat 0), .int .u8 (.ofNat 0), .int .u8 (.ofNat 0), .int .u8 (.ofNat 0), .int .u8 (.ofNat 0), .int .u8 (.ofNat 0), .int .u8 (.ofNat 0), .int .u8 (.ofNat 0), .int .u8 (.ofNat 0), .int .u8 (.ofNat 0), .int .u8 (.ofNat 0), .int .u8 (.ofNat 0), .int .u8 (.ofNat 0), .int .u8 (.ofNat 0), .int .u8 (.ofNat 0), .int .u8 (.ofNat 0), .int .u8 (.ofNat 0), .int .u8 (.ofNat 0), .int .u8 (.ofNat 0), .int .u8 (.ofNat 0), .int .u8 (.ofNat 0), .int .u8 (.ofNat 0), .int .u8 (.ofNat 0), .int .u8 (.ofNat 0), .int .u8 (.ofNat 0), .int .u8 (.ofNat 0), .int .u8 (.ofNat 0), .int .u8 (.ofNat 0), .int .u8 (.ofNat 0), .int .u8 (.ofNat 0), .int .u8 (.ofNat 0), .int .u8 (.ofNat 0), .int .u8 (.ofNat 0), .int .u8 (.ofNat 0), .int .u8 (.ofNat 0), .int .u8 (.ofNat 0), .int .u8 (.ofNat 0), .int .u8 (.ofNat 0), .int .u8 (.ofNat 0), .int .u8 (.ofNat 0), .int .u8 (.ofNat 0), .int .u8 (.ofNat 0), .int .u8 (.ofNat 0), .int .u8 (.ofNat 0), .int .u8 (.ofNat 0), .int .u8 (.ofNat 0), .int .u8 (.ofNat 0), .int .u8 (.ofNat 0), .int .u8 (.ofNat 0), .int .u8 (.ofNat 0), .int .u8 (.ofNat 0), .int .u8 (.ofNat 0), .int .u8 (.ofNat 0), .int .u8 (.ofNat 0), .int .u8 (.ofNat 0), .int .u8 (.ofNat 0), .int .u8 (.ofNat 0), .int .u8 (.ofNat 0), .int .u8 (.ofNat 0), .int .u8 (.ofNat 0), .int .u8 (.ofNat 0), .int .u8 (.ofNat 0), .int .u8 (.ofNat 0), .int .u8 (.ofNat 0), .int .u8 (.ofNat 0), .int .u8 (.ofNat 0), .int .u8 (.ofNat 0), .int .u8 (.ofNat 0), .int .u8 (.ofNat 0), .int .u8 (.ofNat 0), .int .u8 (.ofNat 0), .int .u8 (.ofNat 0), .int .u8 (.ofNat 0), .int .u8 (.ofNat 0), .int .u8 (.ofNat 0), .int .u8 (.ofNat 0), .int .u8 (.ofNat 0), .int .u8 (.ofNat 0), .int .u8 (.ofNat 0), .int .u8 (.ofNat 0), .int .u8 (.ofNat 0), .int .u8 (.ofNat 0), .int .u8 (.ofNat 0), .int .u8 (.ofNat 0), .int .u8 (.ofNat 0), .int .u8 (.ofNat 0), .int .u8 (.ofNat 0), .int .u8 (.ofNat 0), .int .u8 (.ofNat 0), .int .u8 (.ofNat 0), .int .u8 (.ofNat 0), .int .u8 (.ofNat 0), .int .u8 (.ofNat 0), .int .u8 (.ofNat 0), .int .u8 (.ofNat 0), .int .u8 (.ofNat 0), .int .u8 (.ofNat 0), .int .u8 (.ofNat 0), .int .u8 (.ofNat 0), .int .u8 (.ofNat 0), .int .u8 (.ofNat 0), .int .u8 (.ofNat 0), .int .u8 (.ofNat 0), .int .u8 (.ofNat 0), .int .u8 (.ofNat 0), .int .u8 (.ofNat 0), .int .u8 (.ofNat 0), .int .u8 (.ofNat 0), .int .u8 (.ofNat 0), .int .u8 (.ofNat 0), .int .u8 (.ofNat 0), .int .u8 (.ofNat 0), .int .u8 (.ofNat 0), .int .u8 (.ofNat 0), .int .u8 (.ofNat 0), .int .u8 (.ofNat 0), .int .u8 (.ofNat 0), .int .u8 (.ofNat 0), .int .u8 (.ofNat 0), .int .u8 (.ofNat 0), .int .u8 (.ofNat 0), .int .u8 (.ofNat 0), .int .u8 (.ofNat 0), .int .u8 (.ofNat 0), .int .u8 (.ofNat 0), .int .u8 (.ofNat 0), .int .u8 (.ofNat 0), .int .u8 (.ofNat 0), .int .u8 (.ofNat 0), .int .u8 (.ofNat 0), .int .u8 (.ofNat 0), .int .u8 (.ofNat 0), .int .u8 (.ofNat 0), .int .u8 (.ofNat 0), .int .u8 (.ofNat 0), .int .u8 (.ofNat 0), .int .u8 (.ofNat 0), .int .u8 (.ofNat 0), .int .u8 (.ofNat 0), .int .u8 (.ofNat 0), .int .u8 (.ofNat 0), .int .u8 (.ofNat 0), .int .u8 (.ofNat 0), .int .u8 (.ofNat 0), .int .u8 (.ofNat 0), .int .u8 (.ofNat 0), .int .u8 (.ofNat 0), .int .u8 (.ofNat 0), .int .u8 (.ofNat 0), .int .u8 (.ofNat 0), .int .u8 (.ofNat 0), .int .u8 (.ofNat 0), .int .u8 (.ofNat 0), .int .u8 (.ofNat 0), .int .u8 (.ofNat 0), .int .u8 (.ofNat 0), .int .u8 (.ofNat 0), .int .u8 (.ofNat 0), .int .u8 (.ofNat 0), .int .u8 (.ofNat 0), .int .u8 (.ofNat 0), .int .u8 (.ofNat 0), .int .u8 (.ofNat 0), .int .u8 (.ofNat 0), .int .u8 (.ofNat 0), .int .u8 (.ofNat 0), .int .u8 (.ofNat 0), .int .u8 (.ofNat 0), .int .u8 (.ofNat 0), .int .u8 (.ofNat 0), .int .u8 (.ofNat 0), .int .u8 (.ofNat 0), .int .u8 (.ofNat 0), .int .u8 (.ofNat 0), .int .u8 (.ofNat 0), .int .u8 (.ofNat 0), .int .u8 (.ofNat 0), .int .u8 (.ofNat 0), .int .u8 (.ofNat 0), .int .u8 (.ofNat 0), .int .u8 (.ofNat 0), .int .u8 (.ofNat 0), .int .u8 (.ofNat 0), .int .u8 (.ofNat 0), .int .u8 (.ofNat 0), .int .u8 (.ofNat 0), .int .u8 (.ofNat 0), .int .u8 (.ofNat 0), .int .u8 (.ofNat 0), .int .u8 (.ofNat 0), .int .u8 (.ofNat 0), .int .u8 (.ofNat 0), .int .u8 (.ofNat 0), .int .u8 (.ofNat 0), .int .u8 (.ofNat 0), .int .u8 (.ofNat 0), .int .u8 (.ofNat 0), .int .u8 (.ofNat 0), .int .u8 (.ofNat 0), .int .u8 (.ofNat 0), .int .u8 (.ofNat 0), .int .u8 (.ofNat 0), .int .u8 (.ofNat 0), .int .u8 (.ofNat 0), .int .u8 (.ofNat 0), .int .u8 (.ofNat 0)], [], []]
def nd (c v : T) (s k w : Nat) : T := .tup (L [.agg (L [.any, .any, .any, .any, .any, .any, .any, .any, .any, iv s, .any, .any, c, v, .any, iv k, .any, iv w]), iv 0])
def cds (n : Nat) : Nat → List T := Nat.rec (motive := fun _ => Nat → List T) (fun _ => [(.v (.int .i64 (.ofNat 41))), iv 0, s0, s0]) (fun _ ih i => (.v (.int .i64 (.ofNat 1))) :: .v (.sy true [(i, Nat.succ i)]) :: s0 :: s0 :: (.v (.int .i64 (.ofNat 8))) :: iv 0 :: s0 :: s0 :: ih (Nat.succ i)) n
def code (n : Nat) : List T := (.v (.int .i64 (.ofNat 1))) :: iv 0 :: s0 :: s0 :: cds n (nat_lit 0)
def zs (n : Nat) : List T := Nat.rec (motive := fun _ => List T) [] (fun _ ih => iv 0 :: ih) n
def pk (n : Nat) : T := Nat.rec (motive := fun _ => T) (.v .nils) (fun m _ => .sl (Nat.succ m) 1 (L (zs (Nat.succ m)))) n
def pg (l n : Nat) : T := (.agg (L [(.sl 1 6 (L [(.v (.str 1 65)), (.v (.bool false)), (.v (.str 0 0)), (.v .nils), (.v .nils), (.sl 1 9 (L [(.v (.str 1 109)), (.v (.bool true)), (.v (.bool false)), (.v .nils), (.v (.int .i64 (.ofNat 2))), (.v (.str 0 0)), (.v (.int .i64 (.ofNat 0))), (.sl l 4 (L (code n))), (.v .nils)]))]))]))
def tk : T := (.agg (L [(.v (.str 1 65)), (.v (.str 1 109)), (.v (.str 0 0)), (.v (.int .i64 (.ofNat 2))), (.v (.int .i64 (.ofNat 2))), (.v (.int .i64 (.ofNat 60))), (.v (.int .i64 (.ofNat 200))), (.v (.int .i64 (.ofNat 400)))]))
/-- A call on the way, the last call. -/
def en (l n s : Nat) : T × T := (L [pg l n, tk, pk s], nd .any .any s 0 1)
def ef (l n : Nat) : T × T := (L [pg l n, tk, pk l], nd (.v (.sy true [(0, n)])) (.v .nils) l 1 0)
def wke : T × T := (L [], .v (.bool true))
def fe0 : T × T := (L [.v (.str 85 1967623882120786626696924300647020330172589534180580795246258512864573381358043352317504020601645165621625111470871058707064799373357907444276582371945201732717372270211791814985423871736859071312235162723)], (.sl 12 1 (L [(.v (.str 5 495857003619)), (.v (.str 9 1870282268968674946665)), (.v (.str 7 32480047633037413)), (.v (.str 10 545219922727158705843561)), (.v (.str 5 431315315046)), (.v (.str 6 109304575259763)), (.v (.str 6 110429656606061)), (.v (.str 8 7957695015192261990)), (.v (.str 6 126909327568748)), (.v (.str 5 448345170275)), (.v (.str 3 7630441)), (.v (.str 4 1684631414))])))
def fe1 : T × T := (L [.v (.str 60 1395462331823132423355784782285018556031333839734033348357414400956683060530112689693800106032862311113578504873383016344881700030002262023370062)], (.sl 6 1 (L [(.v (.str 9 2110959431130941257038)), (.v (.str 10 540405614369490812690770)), (.v (.str 9 2110959431131075928387)), (.v (.str 8 8245935277855307086)), (.v (.str 9 2110959431130824730963)), (.v (.str 10 540405614369503915828548))])))
def ne0 : T × T := (L [.v (.str 1 65)], (.v (.bool true)))
def ne1 : T × T := (L [.v (.str 1 109)], (.v (.bool true)))
def ne2 : T × T := (L [.v (.str 4 1701080910)], (.v (.bool true)))
def ne3 : T × T := (L [.v (.str 4 1954047342)], (.v (.bool true)))
theorem fe0_ok : TabOk Tryz.prog p205 gl fe0.1 fe0.2 := told_tab fOk mixed (fuel := 400) (by kernel_rfl)
theorem fe1_ok : TabOk Tryz.prog p205 gl fe1.1 fe1.2 := told_tab fOk mixed (fuel := 400) (by kernel_rfl)
theorem ne0_ok : TabOk Tryz.prog p314 gl ne0.1 ne0.2 := told_tab fOk mixed (fuel := 400) (by kernel_rfl)
theorem ne1_ok : TabOk Tryz.prog p314 gl ne1.1 ne1.2 := told_tab fOk mixed (fuel := 400) (by kernel_rfl)
theorem ne2_ok : TabOk Tryz.prog p314 gl ne2.1 ne2.2 := told_tab fOk mixed (fuel := 400) (by kernel_rfl)
theorem ne3_ok : TabOk Tryz.prog p314 gl ne3.1 ne3.2 := told_tab fOk mixed (fuel := 400) (by kernel_rfl)
theorem FOk.set {Pr : Program} {F : Tr Fd} (h : FOk Pr F) {f : P} {fd : Fd} (hd : FdOk Pr f fd) : FOk Pr (Tr.set f F (some fd)) := by
  intro g x hg
  by_cases e : g = f
  · subst e; rw [Tr.get_set_self] at hg; cases hg; exact hd
  · rw [Tr.get_set_ne e] at hg; exact h g x hg
theorem tabs {Pr : Program} {f : P} {fn : Func} {l : List (T × T)} {n : Nat} (hn : f.n = n) (h1 : Pr.funcs[n]? = some fn) (h2 : (fn.name == "runtime.NumGoroutine") = false) (h3 : fn.body.isNone = false) (hl : ∀ p ∈ l, TabOk Pr f gl p.1 p.2) : FdOk Pr f (.tab gl l) := ⟨⟨fn, by rw [hn]; exact h1, h2, h3⟩, rfl, hl⟩
theorem tab_nil {Pr : Program} {f : P} : ∀ p ∈ ([] : List (T × T)), TabOk Pr f gl p.1 p.2 := fun p h => by cases h
theorem tab_cons {Pr : Program} {f : P} {e : T × T} {l : List (T × T)} (h : TabOk Pr f gl e.1 e.2) (hl : ∀ p ∈ l, TabOk Pr f gl p.1 p.2) : ∀ p ∈ e :: l, TabOk Pr f gl p.1 p.2 := fun p hp => by
  rcases List.mem_cons.1 hp with rfl | hp
  · exact h
  · exact hl p hp
def FTa : Tr Fd := Tr.set p314 (Tr.set p205 FT (some (.tab gl [fe0, fe1]))) (some (.tab gl [ne0, ne1, ne2, ne3]))
theorem fOkA : FOk Tryz.prog FTa := (fOk.set (tabs (f := p205) (n := 205) rfl Tryz.func205 (by kernel_rfl) (by kernel_rfl) (tab_cons fe0_ok (tab_cons fe1_ok tab_nil)))).set (tabs (f := p314) (n := 314) rfl Tryz.func314 (by kernel_rfl) (by kernel_rfl) (tab_cons ne0_ok (tab_cons ne1_ok (tab_cons ne2_ok (tab_cons ne3_ok tab_nil)))))
/-- The program's check. -/
def ck (l n : Nat) : T × T := (L [pg l n], iv 0)
theorem kc1 : TabOk Tryz.prog p129 gl (ck 4 1).1 (ck 4 1).2 := told_tab fOkA mixed (fuel := 400) (by kernel_rfl)
theorem kc2 : TabOk Tryz.prog p129 gl (ck 6 2).1 (ck 6 2).2 := told_tab fOkA mixed (fuel := 400) (by kernel_rfl)
theorem kc3 : TabOk Tryz.prog p129 gl (ck 8 3).1 (ck 8 3).2 := told_tab fOkA mixed (fuel := 400) (by kernel_rfl)
theorem kc4 : TabOk Tryz.prog p129 gl (ck 10 4).1 (ck 10 4).2 := told_tab fOkA mixed (fuel := 400) (by kernel_rfl)
theorem kc5 : TabOk Tryz.prog p129 gl (ck 12 5).1 (ck 12 5).2 := told_tab fOkA mixed (fuel := 400) (by kernel_rfl)
theorem kc6 : TabOk Tryz.prog p129 gl (ck 14 6).1 (ck 14 6).2 := told_tab fOkA mixed (fuel := 400) (by kernel_rfl)
theorem kc7 : TabOk Tryz.prog p129 gl (ck 16 7).1 (ck 16 7).2 := told_tab fOkA mixed (fuel := 400) (by kernel_rfl)
theorem kc8 : TabOk Tryz.prog p129 gl (ck 18 8).1 (ck 18 8).2 := told_tab fOkA mixed (fuel := 400) (by kernel_rfl)
theorem kc9 : TabOk Tryz.prog p129 gl (ck 20 9).1 (ck 20 9).2 := told_tab fOkA mixed (fuel := 400) (by kernel_rfl)
theorem kc10 : TabOk Tryz.prog p129 gl (ck 22 10).1 (ck 22 10).2 := told_tab fOkA mixed (fuel := 400) (by kernel_rfl)
theorem kc11 : TabOk Tryz.prog p129 gl (ck 24 11).1 (ck 24 11).2 := told_tab fOkA mixed (fuel := 400) (by kernel_rfl)
theorem kc12 : TabOk Tryz.prog p129 gl (ck 26 12).1 (ck 26 12).2 := told_tab fOkA mixed (fuel := 400) (by kernel_rfl)
theorem kc13 : TabOk Tryz.prog p129 gl (ck 28 13).1 (ck 28 13).2 := told_tab fOkA mixed (fuel := 400) (by kernel_rfl)
theorem kc14 : TabOk Tryz.prog p129 gl (ck 30 14).1 (ck 30 14).2 := told_tab fOkA mixed (fuel := 400) (by kernel_rfl)
theorem kc15 : TabOk Tryz.prog p129 gl (ck 32 15).1 (ck 32 15).2 := told_tab fOkA mixed (fuel := 400) (by kernel_rfl)
theorem kc16 : TabOk Tryz.prog p129 gl (ck 34 16).1 (ck 34 16).2 := told_tab fOkA mixed (fuel := 400) (by kernel_rfl)
theorem kc17 : TabOk Tryz.prog p129 gl (ck 36 17).1 (ck 36 17).2 := told_tab fOkA mixed (fuel := 400) (by kernel_rfl)
theorem kc18 : TabOk Tryz.prog p129 gl (ck 38 18).1 (ck 38 18).2 := told_tab fOkA mixed (fuel := 400) (by kernel_rfl)
theorem kc19 : TabOk Tryz.prog p129 gl (ck 40 19).1 (ck 40 19).2 := told_tab fOkA mixed (fuel := 400) (by kernel_rfl)
theorem kc20 : TabOk Tryz.prog p129 gl (ck 42 20).1 (ck 42 20).2 := told_tab fOkA mixed (fuel := 400) (by kernel_rfl)
def FC (l n : Nat) : Tr Fd := Tr.set p129 FTa (some (.tab gl [ck l n]))
theorem fOkC {l n : Nat} (h : TabOk Tryz.prog p129 gl (ck l n).1 (ck l n).2) : FOk Tryz.prog (FC l n) := fOkA.set (tabs (f := p129) (n := 129) rfl Tryz.func129 (by kernel_rfl) (by kernel_rfl) (tab_cons h tab_nil))
theorem fOk1 : FOk Tryz.prog (FC 4 1) := fOkC kc1
theorem fOk2 : FOk Tryz.prog (FC 6 2) := fOkC kc2
theorem fOk3 : FOk Tryz.prog (FC 8 3) := fOkC kc3
theorem fOk4 : FOk Tryz.prog (FC 10 4) := fOkC kc4
theorem fOk5 : FOk Tryz.prog (FC 12 5) := fOkC kc5
theorem fOk6 : FOk Tryz.prog (FC 14 6) := fOkC kc6
theorem fOk7 : FOk Tryz.prog (FC 16 7) := fOkC kc7
theorem fOk8 : FOk Tryz.prog (FC 18 8) := fOkC kc8
theorem fOk9 : FOk Tryz.prog (FC 20 9) := fOkC kc9
theorem fOk10 : FOk Tryz.prog (FC 22 10) := fOkC kc10
theorem fOk11 : FOk Tryz.prog (FC 24 11) := fOkC kc11
theorem fOk12 : FOk Tryz.prog (FC 26 12) := fOkC kc12
theorem fOk13 : FOk Tryz.prog (FC 28 13) := fOkC kc13
theorem fOk14 : FOk Tryz.prog (FC 30 14) := fOkC kc14
theorem fOk15 : FOk Tryz.prog (FC 32 15) := fOkC kc15
theorem fOk16 : FOk Tryz.prog (FC 34 16) := fOkC kc16
theorem fOk17 : FOk Tryz.prog (FC 36 17) := fOkC kc17
theorem fOk18 : FOk Tryz.prog (FC 38 18) := fOkC kc18
theorem fOk19 : FOk Tryz.prog (FC 40 19) := fOkC kc19
theorem fOk20 : FOk Tryz.prog (FC 42 20) := fOkC kc20
end Go.Proofs.YtnoekfkfinjfgaaGreatDoor.Dx
