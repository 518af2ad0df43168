/- Definitions and lemmas of the proof, without a condition of their own. -/
import Derived.Test.YtkahniffcehicaaM2
import Derived.KernelRfl
namespace Go.Proofs.Try
open Go Go.RowKit Go.Sy
open Go.Eng hiding allB
set_option maxRecDepth 1000000
set_option linter.unusedVariables false
set_option maxHeartbeats 4000000
def ft_ack1 : XF := .mk 50 .none (.seq (g_ 1 [e_ 0 4 (.box 31 (.t 1))]) (.pre [.can 1 [0, 2, 4], .fixc 1 0 0 5] (.seq (.seq (h_ 29 [p_ 0 6 (m_ 0), c_ 1 7 34 [.t 6], p_ 2 8 (.un 0 (.t 7)), p_ 3 9 (m_ 8), rg_ 4 10 9 false (.ld true 2 (.t 4)), pg_ 5 11 9 false (m_ 0), pg_ 6 12 9 false (n_ 11), pg_ 7 13 9 false (f_ 3 12), rg_ 8 14 9 false (.ld true 2 (.t 13)), pg_ 9 15 9 false (.eqs false 2 (.st [(0, 1, false, .int), (1, 1, false, .int)]) (.t 10) (.t 14)), p_ 10 16 (.pick (.t 9) (.c (.bool true)) (.t 15)), p_ 11 17 (m_ 16), pg_ 12 18 17 false (m_ 0), pg_ 13 19 17 false (n_ 18), pg_ 14 20 17 false (f_ 0 19), rg_ 15 21 17 false (.ld true 3 (.t 20)), rg_ 16 22 17 false (.ld true 2 (.t 4)), cg_ 17 23 17 false 31 [.t 21, .t 22], pg_ 18 24 17 false (.bin 3 0 (.t 23) (i_ 0)), p_ 19 25 (.pick (.t 17) (.c (.bool true)) (.t 24)), p_ 20 26 (m_ 25), pg_ 21 27 26 false (m_ 2), pg_ 22 28 26 false (m_ 0), pg_ 23 29 26 false (n_ 28), pg_ 24 30 26 false (f_ 5 29), rg_ 25 31 26 false (l_ 30), pg_ 26 32 26 false (k_ 31), pg_ 27 33 26 false (.bin 3 2 (.t 27) (.t 32)), p_ 28 34 (.pick (.t 26) (.c (.bool true)) (.t 33))]) (.cond (.t 34) .ret .skip)) (.seq (h_ 14 [p_ 0 35 (m_ 0), p_ 1 36 (n_ 35), p_ 2 37 (f_ 9 36), r_ 3 38 (l_ 37), r_ 4 39 (.ld true 2 (.t 4)), p_ 5 40 (m_ 0), p_ 6 41 (n_ 40), p_ 7 42 (f_ 9 41), r_ 8 43 (l_ 42), r_ 9 44 (.ld true 2 (.t 4)), r_ 10 45 (.lk 2 (.st [(0, 1, false, .int), (1, 1, false, .int)]) (o_ 0) false (.t 43) (.t 44)), p_ 11 46 (m_ 2), p_ 12 47 (.mx true (.t 45) (.t 46)), e0_ 13 (.mu 2 (.st [(0, 1, false, .int), (1, 1, false, .int)]) (.t 38) (.t 39) (.t 47))]) (g_ 2 [p_ 0 48 (m_ 0), c_ 1 49 37 [.t 48]])))))
theorem ft_ack1_ok : chkF Try.prog 19 ft_ack1 = true := by kernel_rfl
structure A_ack1 where
  l : List Int
  com : Int
  sh : Prop
  c0 : Int
  w : Int
  up : Int
structure R_ack1 where
  com : Int
  c0 : Int
def po_ack1 (p : A_ack1) (r : R_ack1) : Prop := ([r.c0] = [p.c0] ∧ r.com = p.com) ∨ ∃ j : Nat, 1 ≤ j ∧ j < 1 ∧ p.w = (j : Int) ∧ p.up ≤ (p.l.length : Int) ∧ [r.c0] = ([p.c0].set j (max ([p.c0].getD j 0) p.up)).set 0 (p.l.length : Int) ∧ comR 1 p.com r.com [r.c0]
noncomputable def I_ack1 (p : A_ack1) : IE := ([.ptr 0 0, .agg [.sy (.int 1 p.w), .int 2 (.ofNat 1)], .sy (.int 0 p.up)], (Ro1n p.l p.com p.sh p.c0), 4)
noncomputable def out_ack1 (p : A_ack1) (K : KE) : Bool := allB fun r : R_ack1 => ifB (prB (po_ack1 p r)) (K (.tup []) (Ro1n p.l r.com p.sh r.c0) 4) true
def pre_ack1 (p : A_ack1) : Prop := 0 ≤ p.w ∧ p.w < 1
theorem fin_ack1 {p : A_ack1} {K : KE} (hK : out_ack1 p K = true) (r : R_ack1) (h : po_ack1 p r) : K (.tup []) (Ro1n p.l r.com p.sh r.c0) 4 = true := ifB_use h (allB_ok hK r)
theorem vf_ack1 (p : A_ack1) (K : KE) (hpre : pre_ack1 p) (hK : out_ack1 p K = true) : (funE 1 (cfT nat_add5) noLp 600 ft_ack1 (I_ack1 p).1 (I_ack1 p).2.1 (I_ack1 p).2.2 K) = true := by
  refine Eq.trans (b := (let z0 : Bool := (K (.tup []) (Ro1n p.l p.com p.sh p.c0) 4); ifB (prB (p.w = 0)) z0 (ifB (prB (p.w = 1)) z0 (ifB (prB (p.w = 2)) z0 (ifB (prB (p.w = 3)) z0 (ifB (prB (p.w = 4)) z0 (must (prB (False)) (true)))))))) (by kernel_rfl) ?_
  dsimp only [pre_ack1] at hpre
  refine ifP (fun hc1 => ?_) (fun hc1 => ?_)
  exact fin_ack1 hK ⟨p.com, p.c0⟩ (by dsimp only [po_ack1] <;> (first | exact .inl ⟨rfl, rfl⟩ | (exfalso ; omega)))
  refine ifP (fun hc2 => ?_) (fun hc2 => ?_)
  exact fin_ack1 hK ⟨p.com, p.c0⟩ (by dsimp only [po_ack1] <;> (first | exact .inl ⟨rfl, rfl⟩ | (exfalso ; omega)))
  refine ifP (fun hc3 => ?_) (fun hc3 => ?_)
  exact fin_ack1 hK ⟨p.com, p.c0⟩ (by dsimp only [po_ack1] <;> (first | exact .inl ⟨rfl, rfl⟩ | (exfalso ; omega)))
  refine ifP (fun hc4 => ?_) (fun hc4 => ?_)
  exact fin_ack1 hK ⟨p.com, p.c0⟩ (by dsimp only [po_ack1] <;> (first | exact .inl ⟨rfl, rfl⟩ | (exfalso ; omega)))
  refine ifP (fun hc5 => ?_) (fun hc5 => ?_)
  exact fin_ack1 hK ⟨p.com, p.c0⟩ (by dsimp only [po_ack1] <;> (first | exact .inl ⟨rfl, rfl⟩ | (exfalso ; omega)))
  refine mustP (by omega) ?_
  rfl
noncomputable def ec_ack1 : SpecE := tstE (elB 1 1) (esOf I_ack1 (spP pre_ack1 out_ack1)) (fun _ _ _ _ => false)
theorem nc_ack1 : NatE Try.prog 19 1 ec_ack1 := tstE_ok (natE_pl (f := 19) (k := 1) (cfT_ok nat_add5_ok) ft_ack1_ok (by rfl) (by rfl) vf_ack1) natE_no
noncomputable def nat_ack1 := natC nat_add5 1 ec_ack1 19 [(0, 4), (1, 15), (2, 20)]
theorem nat_ack1_ok : NatsOk Try.prog nat_ack1 := natC_ok nc_ack1 nat_add5_ok
def ft_ack2 : XF := ft_ack1
theorem ft_ack2_ok : chkF Try.prog 19 ft_ack2 = true := ft_ack1_ok
structure A_ack2 where
  l : List Int
  com : Int
  sh : Prop
  c0 : Int
  c1 : Int
  w : Int
  up : Int
structure R_ack2 where
  com : Int
  c0 : Int
  c1 : Int
def po_ack2 (p : A_ack2) (r : R_ack2) : Prop := ([r.c0, r.c1] = [p.c0, p.c1] ∧ r.com = p.com) ∨ ∃ j : Nat, 1 ≤ j ∧ j < 2 ∧ p.w = (j : Int) ∧ p.up ≤ (p.l.length : Int) ∧ [r.c0, r.c1] = ([p.c0, p.c1].set j (max ([p.c0, p.c1].getD j 0) p.up)).set 0 (p.l.length : Int) ∧ comR 2 p.com r.com [r.c0, r.c1]
noncomputable def I_ack2 (p : A_ack2) : IE := ([.ptr 0 0, .agg [.sy (.int 1 p.w), .int 2 (.ofNat 1)], .sy (.int 0 p.up)], (Ro2n p.l p.com p.sh p.c0 p.c1), 4)
noncomputable def out_ack2 (p : A_ack2) (K : KE) : Bool := allB fun r : R_ack2 => ifB (prB (po_ack2 p r)) (K (.tup []) (Ro2n p.l r.com p.sh r.c0 r.c1) 4) true
def pre_ack2 (p : A_ack2) : Prop := 0 ≤ p.w ∧ p.w < 2
theorem fin_ack2 {p : A_ack2} {K : KE} (hK : out_ack2 p K = true) (r : R_ack2) (h : po_ack2 p r) : K (.tup []) (Ro2n p.l r.com p.sh r.c0 r.c1) 4 = true := ifB_use h (allB_ok hK r)
theorem vf_ack2 (p : A_ack2) (K : KE) (hpre : pre_ack2 p) (hK : out_ack2 p K = true) : (funE 1 (cfT nat_ack1) noLp 600 ft_ack2 (I_ack2 p).1 (I_ack2 p).2.1 (I_ack2 p).2.2 K) = true := by
  refine Eq.trans (b := (let z0 : Bool := (K (.tup []) (Ro2n p.l p.com p.sh p.c0 p.c1) 4); ifB (prB (p.w = 0)) z0 (ifB (prB (p.w = 1)) (ifB (prB ((p.l.length : Int) < p.up)) z0 (exB fun p1 : A_settle2 => must (prB (([.ptr 0 0], (Ro2n p.l p.com p.sh p.c0 (max p.c1 p.up)), 4) = I_settle2 p1)) (allB fun r1 : R_settle2 => ifB (prB (po_settle2 p1 r1)) (K (.tup []) (Ro2n p1.l r1.com p1.sh (p1.l.length : Int) p1.c1) 4) true))) (ifB (prB (p.w = 2)) z0 (ifB (prB (p.w = 3)) z0 (ifB (prB (p.w = 4)) z0 (must (prB (False)) (true)))))))) (by kernel_rfl) ?_
  dsimp only [pre_ack2] at hpre
  refine ifP (fun hc1 => ?_) (fun hc1 => ?_)
  exact fin_ack2 hK ⟨p.com, p.c0, p.c1⟩ (by dsimp only [po_ack2] <;> (first | exact .inl ⟨rfl, rfl⟩ | (exfalso ; omega)))
  refine ifP (fun hc2 => ?_) (fun hc2 => ?_)
  refine ifP (fun hc3 => ?_) (fun hc3 => ?_)
  exact fin_ack2 hK ⟨p.com, p.c0, p.c1⟩ (by dsimp only [po_ack2] <;> (first | exact .inl ⟨rfl, rfl⟩ | (exfalso ; omega)))
  refine callR (⟨p.l, p.com, p.sh, p.c0, max p.c1 p.up⟩ : A_settle2) rfl fun r1 hi4 => ?_
  dsimp only [po_settle2] at hi4
  exact fin_ack2 hK ⟨r1.com, (p.l.length : Int), (max p.c1 p.up)⟩ (by dsimp only [po_ack2] <;> (first | exact .inl ⟨rfl, rfl⟩ | (exfalso ; omega) | exact .inr ⟨1, by decide, by decide, by omega, by omega, rfl, by assumption⟩))
  refine ifP (fun hc5 => ?_) (fun hc5 => ?_)
  exact fin_ack2 hK ⟨p.com, p.c0, p.c1⟩ (by dsimp only [po_ack2] <;> (first | exact .inl ⟨rfl, rfl⟩ | (exfalso ; omega)))
  refine ifP (fun hc6 => ?_) (fun hc6 => ?_)
  exact fin_ack2 hK ⟨p.com, p.c0, p.c1⟩ (by dsimp only [po_ack2] <;> (first | exact .inl ⟨rfl, rfl⟩ | (exfalso ; omega)))
  refine ifP (fun hc7 => ?_) (fun hc7 => ?_)
  exact fin_ack2 hK ⟨p.com, p.c0, p.c1⟩ (by dsimp only [po_ack2] <;> (first | exact .inl ⟨rfl, rfl⟩ | (exfalso ; omega)))
  refine mustP (by omega) ?_
  rfl
noncomputable def ec_ack2 : SpecE := tstE (elB 1 2) (esOf I_ack2 (spP pre_ack2 out_ack2)) ec_ack1
theorem nc_ack2 : NatE Try.prog 19 1 ec_ack2 := tstE_ok (natE_pl (f := 19) (k := 1) (cfT_ok nat_ack1_ok) ft_ack2_ok (by rfl) (by rfl) vf_ack2) nc_ack1
noncomputable def nat_ack2 := natC nat_ack1 1 ec_ack2 19 [(0, 4), (1, 15), (2, 20)]
theorem nat_ack2_ok : NatsOk Try.prog nat_ack2 := natC_ok nc_ack2 nat_ack1_ok
def ft_ack3 : XF := ft_ack1
theorem ft_ack3_ok : chkF Try.prog 19 ft_ack3 = true := ft_ack1_ok
structure A_ack3 where
  l : List Int
  com : Int
  sh : Prop
  c0 : Int
  c1 : Int
  c2 : Int
  w : Int
  up : Int
structure R_ack3 where
  com : Int
  c0 : Int
  c1 : Int
  c2 : Int
def po_ack3 (p : A_ack3) (r : R_ack3) : Prop := ([r.c0, r.c1, r.c2] = [p.c0, p.c1, p.c2] ∧ r.com = p.com) ∨ ∃ j : Nat, 1 ≤ j ∧ j < 3 ∧ p.w = (j : Int) ∧ p.up ≤ (p.l.length : Int) ∧ [r.c0, r.c1, r.c2] = ([p.c0, p.c1, p.c2].set j (max ([p.c0, p.c1, p.c2].getD j 0) p.up)).set 0 (p.l.length : Int) ∧ comR 2 p.com r.com [r.c0, r.c1, r.c2]
noncomputable def I_ack3 (p : A_ack3) : IE := ([.ptr 0 0, .agg [.sy (.int 1 p.w), .int 2 (.ofNat 1)], .sy (.int 0 p.up)], (Ro3n p.l p.com p.sh p.c0 p.c1 p.c2), 4)
noncomputable def out_ack3 (p : A_ack3) (K : KE) : Bool := allB fun r : R_ack3 => ifB (prB (po_ack3 p r)) (K (.tup []) (Ro3n p.l r.com p.sh r.c0 r.c1 r.c2) 4) true
def pre_ack3 (p : A_ack3) : Prop := 0 ≤ p.w ∧ p.w < 3
theorem fin_ack3 {p : A_ack3} {K : KE} (hK : out_ack3 p K = true) (r : R_ack3) (h : po_ack3 p r) : K (.tup []) (Ro3n p.l r.com p.sh r.c0 r.c1 r.c2) 4 = true := ifB_use h (allB_ok hK r)
theorem vf_ack3 (p : A_ack3) (K : KE) (hpre : pre_ack3 p) (hK : out_ack3 p K = true) : (funE 1 (cfT nat_ack2) noLp 600 ft_ack3 (I_ack3 p).1 (I_ack3 p).2.1 (I_ack3 p).2.2 K) = true := by
  refine Eq.trans (b := (let z0 : Bool := (K (.tup []) (Ro3n p.l p.com p.sh p.c0 p.c1 p.c2) 4); ifB (prB (p.w = 0)) z0 (ifB (prB (p.w = 1)) (ifB (prB ((p.l.length : Int) < p.up)) z0 (exB fun p2 : A_settle3 => must (prB (([.ptr 0 0], (Ro3n p.l p.com p.sh p.c0 (max p.c1 p.up) p.c2), 4) = I_settle3 p2)) (allB fun r2 : R_settle3 => ifB (prB (po_settle3 p2 r2)) (K (.tup []) (Ro3n p2.l r2.com p2.sh (p2.l.length : Int) p2.c1 p2.c2) 4) true))) (ifB (prB (p.w = 2)) (ifB (prB ((p.l.length : Int) < p.up)) z0 (exB fun p1 : A_settle3 => must (prB (([.ptr 0 0], (Ro3n p.l p.com p.sh p.c0 p.c1 (max p.c2 p.up)), 4) = I_settle3 p1)) (allB fun r1 : R_settle3 => ifB (prB (po_settle3 p1 r1)) (K (.tup []) (Ro3n p1.l r1.com p1.sh (p1.l.length : Int) p1.c1 p1.c2) 4) true))) (ifB (prB (p.w = 3)) z0 (ifB (prB (p.w = 4)) z0 (must (prB (False)) (true)))))))) (by kernel_rfl) ?_
  dsimp only [pre_ack3] at hpre
  refine ifP (fun hc1 => ?_) (fun hc1 => ?_)
  exact fin_ack3 hK ⟨p.com, p.c0, p.c1, p.c2⟩ (by dsimp only [po_ack3] <;> (first | exact .inl ⟨rfl, rfl⟩ | (exfalso ; omega)))
  refine ifP (fun hc2 => ?_) (fun hc2 => ?_)
  refine ifP (fun hc3 => ?_) (fun hc3 => ?_)
  exact fin_ack3 hK ⟨p.com, p.c0, p.c1, p.c2⟩ (by dsimp only [po_ack3] <;> (first | exact .inl ⟨rfl, rfl⟩ | (exfalso ; omega)))
  refine callR (⟨p.l, p.com, p.sh, p.c0, max p.c1 p.up, p.c2⟩ : A_settle3) rfl fun r2 hi4 => ?_
  dsimp only [po_settle3] at hi4
  exact fin_ack3 hK ⟨r2.com, (p.l.length : Int), (max p.c1 p.up), p.c2⟩ (by dsimp only [po_ack3] <;> (first | exact .inl ⟨rfl, rfl⟩ | (exfalso ; omega) | exact .inr ⟨1, by decide, by decide, by omega, by omega, rfl, by assumption⟩ | exact .inr ⟨2, by decide, by decide, by omega, by omega, rfl, by assumption⟩))
  refine ifP (fun hc5 => ?_) (fun hc5 => ?_)
  refine ifP (fun hc6 => ?_) (fun hc6 => ?_)
  exact fin_ack3 hK ⟨p.com, p.c0, p.c1, p.c2⟩ (by dsimp only [po_ack3] <;> (first | exact .inl ⟨rfl, rfl⟩ | (exfalso ; omega)))
  refine callR (⟨p.l, p.com, p.sh, p.c0, p.c1, max p.c2 p.up⟩ : A_settle3) rfl fun r1 hi7 => ?_
  dsimp only [po_settle3] at hi7
  exact fin_ack3 hK ⟨r1.com, (p.l.length : Int), p.c1, (max p.c2 p.up)⟩ (by dsimp only [po_ack3] <;> (first | exact .inl ⟨rfl, rfl⟩ | (exfalso ; omega) | exact .inr ⟨1, by decide, by decide, by omega, by omega, rfl, by assumption⟩ | exact .inr ⟨2, by decide, by decide, by omega, by omega, rfl, by assumption⟩))
  refine ifP (fun hc8 => ?_) (fun hc8 => ?_)
  exact fin_ack3 hK ⟨p.com, p.c0, p.c1, p.c2⟩ (by dsimp only [po_ack3] <;> (first | exact .inl ⟨rfl, rfl⟩ | (exfalso ; omega)))
  refine ifP (fun hc9 => ?_) (fun hc9 => ?_)
  exact fin_ack3 hK ⟨p.com, p.c0, p.c1, p.c2⟩ (by dsimp only [po_ack3] <;> (first | exact .inl ⟨rfl, rfl⟩ | (exfalso ; omega)))
  refine mustP (by omega) ?_
  rfl
noncomputable def ec_ack3 : SpecE := tstE (elB 1 3) (esOf I_ack3 (spP pre_ack3 out_ack3)) ec_ack2
theorem nc_ack3 : NatE Try.prog 19 1 ec_ack3 := tstE_ok (natE_pl (f := 19) (k := 1) (cfT_ok nat_ack2_ok) ft_ack3_ok (by rfl) (by rfl) vf_ack3) nc_ack2
noncomputable def nat_ack3 := natC nat_ack2 1 ec_ack3 19 [(0, 4), (1, 15), (2, 20)]
theorem nat_ack3_ok : NatsOk Try.prog nat_ack3 := natC_ok nc_ack3 nat_ack2_ok
def ft_ack4 : XF := ft_ack1
theorem ft_ack4_ok : chkF Try.prog 19 ft_ack4 = true := ft_ack1_ok
structure A_ack4 where
  l : List Int
  com : Int
  sh : Prop
  c0 : Int
  c1 : Int
  c2 : Int
  c3 : Int
  w : Int
  up : Int
structure R_ack4 where
  com : Int
  c0 : Int
  c1 : Int
  c2 : Int
  c3 : Int
def po_ack4 (p : A_ack4) (r : R_ack4) : Prop := ([r.c0, r.c1, r.c2, r.c3] = [p.c0, p.c1, p.c2, p.c3] ∧ r.com = p.com) ∨ ∃ j : Nat, 1 ≤ j ∧ j < 4 ∧ p.w = (j : Int) ∧ p.up ≤ (p.l.length : Int) ∧ [r.c0, r.c1, r.c2, r.c3] = ([p.c0, p.c1, p.c2, p.c3].set j (max ([p.c0, p.c1, p.c2, p.c3].getD j 0) p.up)).set 0 (p.l.length : Int) ∧ comR 3 p.com r.com [r.c0, r.c1, r.c2, r.c3]
noncomputable def I_ack4 (p : A_ack4) : IE := ([.ptr 0 0, .agg [.sy (.int 1 p.w), .int 2 (.ofNat 1)], .sy (.int 0 p.up)], (Ro4n p.l p.com p.sh p.c0 p.c1 p.c2 p.c3), 4)
noncomputable def out_ack4 (p : A_ack4) (K : KE) : Bool := allB fun r : R_ack4 => ifB (prB (po_ack4 p r)) (K (.tup []) (Ro4n p.l r.com p.sh r.c0 r.c1 r.c2 r.c3) 4) true
def pre_ack4 (p : A_ack4) : Prop := 0 ≤ p.w ∧ p.w < 4
theorem fin_ack4 {p : A_ack4} {K : KE} (hK : out_ack4 p K = true) (r : R_ack4) (h : po_ack4 p r) : K (.tup []) (Ro4n p.l r.com p.sh r.c0 r.c1 r.c2 r.c3) 4 = true := ifB_use h (allB_ok hK r)
theorem vf_ack4 (p : A_ack4) (K : KE) (hpre : pre_ack4 p) (hK : out_ack4 p K = true) : (funE 1 (cfT nat_ack3) noLp 600 ft_ack4 (I_ack4 p).1 (I_ack4 p).2.1 (I_ack4 p).2.2 K) = true := by
  refine Eq.trans (b := (let z0 : Bool := (K (.tup []) (Ro4n p.l p.com p.sh p.c0 p.c1 p.c2 p.c3) 4); ifB (prB (p.w = 0)) z0 (ifB (prB (p.w = 1)) (ifB (prB ((p.l.length : Int) < p.up)) z0 (exB fun p3 : A_settle4 => must (prB (([.ptr 0 0], (Ro4n p.l p.com p.sh p.c0 (max p.c1 p.up) p.c2 p.c3), 4) = I_settle4 p3)) (allB fun r3 : R_settle4 => ifB (prB (po_settle4 p3 r3)) (K (.tup []) (Ro4n p3.l r3.com p3.sh (p3.l.length : Int) p3.c1 p3.c2 p3.c3) 4) true))) (ifB (prB (p.w = 2)) (ifB (prB ((p.l.length : Int) < p.up)) z0 (exB fun p2 : A_settle4 => must (prB (([.ptr 0 0], (Ro4n p.l p.com p.sh p.c0 p.c1 (max p.c2 p.up) p.c3), 4) = I_settle4 p2)) (allB fun r2 : R_settle4 => ifB (prB (po_settle4 p2 r2)) (K (.tup []) (Ro4n p2.l r2.com p2.sh (p2.l.length : Int) p2.c1 p2.c2 p2.c3) 4) true))) (ifB (prB (p.w = 3)) (ifB (prB ((p.l.length : Int) < p.up)) z0 (exB fun p1 : A_settle4 => must (prB (([.ptr 0 0], (Ro4n p.l p.com p.sh p.c0 p.c1 p.c2 (max p.c3 p.up)), 4) = I_settle4 p1)) (allB fun r1 : R_settle4 => ifB (prB (po_settle4 p1 r1)) (K (.tup []) (Ro4n p1.l r1.com p1.sh (p1.l.length : Int) p1.c1 p1.c2 p1.c3) 4) true))) (ifB (prB (p.w = 4)) z0 (must (prB (False)) (true)))))))) (by kernel_rfl) ?_
  dsimp only [pre_ack4] at hpre
  refine ifP (fun hc1 => ?_) (fun hc1 => ?_)
  exact fin_ack4 hK ⟨p.com, p.c0, p.c1, p.c2, p.c3⟩ (by dsimp only [po_ack4] <;> (first | exact .inl ⟨rfl, rfl⟩ | (exfalso ; omega)))
  refine ifP (fun hc2 => ?_) (fun hc2 => ?_)
  refine ifP (fun hc3 => ?_) (fun hc3 => ?_)
  exact fin_ack4 hK ⟨p.com, p.c0, p.c1, p.c2, p.c3⟩ (by dsimp only [po_ack4] <;> (first | exact .inl ⟨rfl, rfl⟩ | (exfalso ; omega)))
  refine callR (⟨p.l, p.com, p.sh, p.c0, max p.c1 p.up, p.c2, p.c3⟩ : A_settle4) rfl fun r3 hi4 => ?_
  dsimp only [po_settle4] at hi4
  exact fin_ack4 hK ⟨r3.com, (p.l.length : Int), (max p.c1 p.up), p.c2, p.c3⟩ (by dsimp only [po_ack4] <;> (first | exact .inl ⟨rfl, rfl⟩ | (exfalso ; omega) | exact .inr ⟨1, by decide, by decide, by omega, by omega, rfl, by assumption⟩ | exact .inr ⟨2, by decide, by decide, by omega, by omega, rfl, by assumption⟩ | exact .inr ⟨3, by decide, by decide, by omega, by omega, rfl, by assumption⟩))
  refine ifP (fun hc5 => ?_) (fun hc5 => ?_)
  refine ifP (fun hc6 => ?_) (fun hc6 => ?_)
  exact fin_ack4 hK ⟨p.com, p.c0, p.c1, p.c2, p.c3⟩ (by dsimp only [po_ack4] <;> (first | exact .inl ⟨rfl, rfl⟩ | (exfalso ; omega)))
  refine callR (⟨p.l, p.com, p.sh, p.c0, p.c1, max p.c2 p.up, p.c3⟩ : A_settle4) rfl fun r2 hi7 => ?_
  dsimp only [po_settle4] at hi7
  exact fin_ack4 hK ⟨r2.com, (p.l.length : Int), p.c1, (max p.c2 p.up), p.c3⟩ (by dsimp only [po_ack4] <;> (first | exact .inl ⟨rfl, rfl⟩ | (exfalso ; omega) | exact .inr ⟨1, by decide, by decide, by omega, by omega, rfl, by assumption⟩ | exact .inr ⟨2, by decide, by decide, by omega, by omega, rfl, by assumption⟩ | exact .inr ⟨3, by decide, by decide, by omega, by omega, rfl, by assumption⟩))
  refine ifP (fun hc8 => ?_) (fun hc8 => ?_)
  refine ifP (fun hc9 => ?_) (fun hc9 => ?_)
  exact fin_ack4 hK ⟨p.com, p.c0, p.c1, p.c2, p.c3⟩ (by dsimp only [po_ack4] <;> (first | exact .inl ⟨rfl, rfl⟩ | (exfalso ; omega)))
  refine callR (⟨p.l, p.com, p.sh, p.c0, p.c1, p.c2, max p.c3 p.up⟩ : A_settle4) rfl fun r1 hi10 => ?_
  dsimp only [po_settle4] at hi10
  exact fin_ack4 hK ⟨r1.com, (p.l.length : Int), p.c1, p.c2, (max p.c3 p.up)⟩ (by dsimp only [po_ack4] <;> (first | exact .inl ⟨rfl, rfl⟩ | (exfalso ; omega) | exact .inr ⟨1, by decide, by decide, by omega, by omega, rfl, by assumption⟩ | exact .inr ⟨2, by decide, by decide, by omega, by omega, rfl, by assumption⟩ | exact .inr ⟨3, by decide, by decide, by omega, by omega, rfl, by assumption⟩))
  refine ifP (fun hc11 => ?_) (fun hc11 => ?_)
  exact fin_ack4 hK ⟨p.com, p.c0, p.c1, p.c2, p.c3⟩ (by dsimp only [po_ack4] <;> (first | exact .inl ⟨rfl, rfl⟩ | (exfalso ; omega)))
  refine mustP (by omega) ?_
  rfl
noncomputable def ec_ack4 : SpecE := tstE (elB 1 4) (esOf I_ack4 (spP pre_ack4 out_ack4)) ec_ack3
theorem nc_ack4 : NatE Try.prog 19 1 ec_ack4 := tstE_ok (natE_pl (f := 19) (k := 1) (cfT_ok nat_ack3_ok) ft_ack4_ok (by rfl) (by rfl) vf_ack4) nc_ack3
noncomputable def nat_ack4 := natC nat_ack3 1 ec_ack4 19 [(0, 4), (1, 15), (2, 20)]
theorem nat_ack4_ok : NatsOk Try.prog nat_ack4 := natC_ok nc_ack4 nat_ack3_ok
def ft_ack5 : XF := ft_ack1
theorem ft_ack5_ok : chkF Try.prog 19 ft_ack5 = true := ft_ack1_ok
structure A_ack5 where
  l : List Int
  com : Int
  sh : Prop
  c0 : Int
  c1 : Int
  c2 : Int
  c3 : Int
  c4 : Int
  w : Int
  up : Int
structure R_ack5 where
  com : Int
  c0 : Int
  c1 : Int
  c2 : Int
  c3 : Int
  c4 : Int
def po_ack5 (p : A_ack5) (r : R_ack5) : Prop := ([r.c0, r.c1, r.c2, r.c3, r.c4] = [p.c0, p.c1, p.c2, p.c3, p.c4] ∧ r.com = p.com) ∨ ∃ j : Nat, 1 ≤ j ∧ j < 5 ∧ p.w = (j : Int) ∧ p.up ≤ (p.l.length : Int) ∧ [r.c0, r.c1, r.c2, r.c3, r.c4] = ([p.c0, p.c1, p.c2, p.c3, p.c4].set j (max ([p.c0, p.c1, p.c2, p.c3, p.c4].getD j 0) p.up)).set 0 (p.l.length : Int) ∧ comR 3 p.com r.com [r.c0, r.c1, r.c2, r.c3, r.c4]
noncomputable def I_ack5 (p : A_ack5) : IE := ([.ptr 0 0, .agg [.sy (.int 1 p.w), .int 2 (.ofNat 1)], .sy (.int 0 p.up)], (Ro5n p.l p.com p.sh p.c0 p.c1 p.c2 p.c3 p.c4), 4)
noncomputable def out_ack5 (p : A_ack5) (K : KE) : Bool := allB fun r : R_ack5 => ifB (prB (po_ack5 p r)) (K (.tup []) (Ro5n p.l r.com p.sh r.c0 r.c1 r.c2 r.c3 r.c4) 4) true
def pre_ack5 (p : A_ack5) : Prop := 0 ≤ p.w ∧ p.w < 5
theorem fin_ack5 {p : A_ack5} {K : KE} (hK : out_ack5 p K = true) (r : R_ack5) (h : po_ack5 p r) : K (.tup []) (Ro5n p.l r.com p.sh r.c0 r.c1 r.c2 r.c3 r.c4) 4 = true := ifB_use h (allB_ok hK r)
theorem vf_ack5 (p : A_ack5) (K : KE) (hpre : pre_ack5 p) (hK : out_ack5 p K = true) : (funE 1 (cfT nat_ack4) noLp 600 ft_ack5 (I_ack5 p).1 (I_ack5 p).2.1 (I_ack5 p).2.2 K) = true := by
  refine Eq.trans (b := (let z0 : Bool := (K (.tup []) (Ro5n p.l p.com p.sh p.c0 p.c1 p.c2 p.c3 p.c4) 4); ifB (prB (p.w = 0)) z0 (ifB (prB (p.w = 1)) (ifB (prB ((p.l.length : Int) < p.up)) z0 (exB fun p4 : A_settle5 => must (prB (([.ptr 0 0], (Ro5n p.l p.com p.sh p.c0 (max p.c1 p.up) p.c2 p.c3 p.c4), 4) = I_settle5 p4)) (allB fun r4 : R_settle5 => ifB (prB (po_settle5 p4 r4)) (K (.tup []) (Ro5n p4.l r4.com p4.sh (p4.l.length : Int) p4.c1 p4.c2 p4.c3 p4.c4) 4) true))) (ifB (prB (p.w = 2)) (ifB (prB ((p.l.length : Int) < p.up)) z0 (exB fun p3 : A_settle5 => must (prB (([.ptr 0 0], (Ro5n p.l p.com p.sh p.c0 p.c1 (max p.c2 p.up) p.c3 p.c4), 4) = I_settle5 p3)) (allB fun r3 : R_settle5 => ifB (prB (po_settle5 p3 r3)) (K (.tup []) (Ro5n p3.l r3.com p3.sh (p3.l.length : Int) p3.c1 p3.c2 p3.c3 p3.c4) 4) true))) (ifB (prB (p.w = 3)) (ifB (prB ((p.l.length : Int) < p.up)) z0 (exB fun p2 : A_settle5 => must (prB (([.ptr 0 0], (Ro5n p.l p.com p.sh p.c0 p.c1 p.c2 (max p.c3 p.up) p.c4), 4) = I_settle5 p2)) (allB fun r2 : R_settle5 => ifB (prB (po_settle5 p2 r2)) (K (.tup []) (Ro5n p2.l r2.com p2.sh (p2.l.length : Int) p2.c1 p2.c2 p2.c3 p2.c4) 4) true))) (ifB (prB (p.w = 4)) (ifB (prB ((p.l.length : Int) < p.up)) z0 (exB fun p1 : A_settle5 => must (prB (([.ptr 0 0], (Ro5n p.l p.com p.sh p.c0 p.c1 p.c2 p.c3 (max p.c4 p.up)), 4) = I_settle5 p1)) (allB fun r1 : R_settle5 => ifB (prB (po_settle5 p1 r1)) (K (.tup []) (Ro5n p1.l r1.com p1.sh (p1.l.length : Int) p1.c1 p1.c2 p1.c3 p1.c4) 4) true))) (must (prB (False)) (true)))))))) (by kernel_rfl) ?_
  dsimp only [pre_ack5] at hpre
  refine ifP (fun hc1 => ?_) (fun hc1 => ?_)
  exact fin_ack5 hK ⟨p.com, p.c0, p.c1, p.c2, p.c3, p.c4⟩ (by dsimp only [po_ack5] <;> (first | exact .inl ⟨rfl, rfl⟩ | (exfalso ; omega)))
  refine ifP (fun hc2 => ?_) (fun hc2 => ?_)
  refine ifP (fun hc3 => ?_) (fun hc3 => ?_)
  exact fin_ack5 hK ⟨p.com, p.c0, p.c1, p.c2, p.c3, p.c4⟩ (by dsimp only [po_ack5] <;> (first | exact .inl ⟨rfl, rfl⟩ | (exfalso ; omega)))
  refine callR (⟨p.l, p.com, p.sh, p.c0, max p.c1 p.up, p.c2, p.c3, p.c4⟩ : A_settle5) rfl fun r4 hi4 => ?_
  dsimp only [po_settle5] at hi4
  exact fin_ack5 hK ⟨r4.com, (p.l.length : Int), (max p.c1 p.up), p.c2, p.c3, p.c4⟩ (by dsimp only [po_ack5] <;> (first | exact .inl ⟨rfl, rfl⟩ | (exfalso ; omega) | exact .inr ⟨1, by decide, by decide, by omega, by omega, rfl, by assumption⟩ | exact .inr ⟨2, by decide, by decide, by omega, by omega, rfl, by assumption⟩ | exact .inr ⟨3, by decide, by decide, by omega, by omega, rfl, by assumption⟩ | exact .inr ⟨4, by decide, by decide, by omega, by omega, rfl, by assumption⟩))
  refine ifP (fun hc5 => ?_) (fun hc5 => ?_)
  refine ifP (fun hc6 => ?_) (fun hc6 => ?_)
  exact fin_ack5 hK ⟨p.com, p.c0, p.c1, p.c2, p.c3, p.c4⟩ (by dsimp only [po_ack5] <;> (first | exact .inl ⟨rfl, rfl⟩ | (exfalso ; omega)))
  refine callR (⟨p.l, p.com, p.sh, p.c0, p.c1, max p.c2 p.up, p.c3, p.c4⟩ : A_settle5) rfl fun r3 hi7 => ?_
  dsimp only [po_settle5] at hi7
  exact fin_ack5 hK ⟨r3.com, (p.l.length : Int), p.c1, (max p.c2 p.up), p.c3, p.c4⟩ (by dsimp only [po_ack5] <;> (first | exact .inl ⟨rfl, rfl⟩ | (exfalso ; omega) | exact .inr ⟨1, by decide, by decide, by omega, by omega, rfl, by assumption⟩ | exact .inr ⟨2, by decide, by decide, by omega, by omega, rfl, by assumption⟩ | exact .inr ⟨3, by decide, by decide, by omega, by omega, rfl, by assumption⟩ | exact .inr ⟨4, by decide, by decide, by omega, by omega, rfl, by assumption⟩))
  refine ifP (fun hc8 => ?_) (fun hc8 => ?_)
  refine ifP (fun hc9 => ?_) (fun hc9 => ?_)
  exact fin_ack5 hK ⟨p.com, p.c0, p.c1, p.c2, p.c3, p.c4⟩ (by dsimp only [po_ack5] <;> (first | exact .inl ⟨rfl, rfl⟩ | (exfalso ; omega)))
  refine callR (⟨p.l, p.com, p.sh, p.c0, p.c1, p.c2, max p.c3 p.up, p.c4⟩ : A_settle5) rfl fun r2 hi10 => ?_
  dsimp only [po_settle5] at hi10
  exact fin_ack5 hK ⟨r2.com, (p.l.length : Int), p.c1, p.c2, (max p.c3 p.up), p.c4⟩ (by dsimp only [po_ack5] <;> (first | exact .inl ⟨rfl, rfl⟩ | (exfalso ; omega) | exact .inr ⟨1, by decide, by decide, by omega, by omega, rfl, by assumption⟩ | exact .inr ⟨2, by decide, by decide, by omega, by omega, rfl, by assumption⟩ | exact .inr ⟨3, by decide, by decide, by omega, by omega, rfl, by assumption⟩ | exact .inr ⟨4, by decide, by decide, by omega, by omega, rfl, by assumption⟩))
  refine ifP (fun hc11 => ?_) (fun hc11 => ?_)
  refine ifP (fun hc12 => ?_) (fun hc12 => ?_)
  exact fin_ack5 hK ⟨p.com, p.c0, p.c1, p.c2, p.c3, p.c4⟩ (by dsimp only [po_ack5] <;> (first | exact .inl ⟨rfl, rfl⟩ | (exfalso ; omega)))
  refine callR (⟨p.l, p.com, p.sh, p.c0, p.c1, p.c2, p.c3, max p.c4 p.up⟩ : A_settle5) rfl fun r1 hi13 => ?_
  dsimp only [po_settle5] at hi13
  exact fin_ack5 hK ⟨r1.com, (p.l.length : Int), p.c1, p.c2, p.c3, (max p.c4 p.up)⟩ (by dsimp only [po_ack5] <;> (first | exact .inl ⟨rfl, rfl⟩ | (exfalso ; omega) | exact .inr ⟨1, by decide, by decide, by omega, by omega, rfl, by assumption⟩ | exact .inr ⟨2, by decide, by decide, by omega, by omega, rfl, by assumption⟩ | exact .inr ⟨3, by decide, by decide, by omega, by omega, rfl, by assumption⟩ | exact .inr ⟨4, by decide, by decide, by omega, by omega, rfl, by assumption⟩))
  refine mustP (by omega) ?_
  rfl
noncomputable def ec_ack5 : SpecE := tstE (elB 1 5) (esOf I_ack5 (spP pre_ack5 out_ack5)) ec_ack4
theorem nc_ack5 : NatE Try.prog 19 1 ec_ack5 := tstE_ok (natE_pl (f := 19) (k := 1) (cfT_ok nat_ack4_ok) ft_ack5_ok (by rfl) (by rfl) vf_ack5) nc_ack4
noncomputable def nat_ack5 := natC nat_ack4 1 ec_ack5 19 [(0, 4), (1, 15), (2, 20)]
theorem nat_ack5_ok : NatsOk Try.prog nat_ack5 := natC_ok nc_ack5 nat_ack4_ok
end Go.Proofs.Try

namespace Go.Proofs.Try
open Go Go.RowKit Go.Sy
open Go.Eng hiding allB
set_option maxRecDepth 1000000
set_option linter.unusedVariables false
set_option maxHeartbeats 4000000
def ft_since1 : XF := .mk 49 (.two 6 7) (.aft (.seq (g_ 3 [e_ 0 4 (.box 31 (.t 1)), p_ 1 6 (.mv (i_ 0)), p_ 2 7 (.mv (.c .nilS))]) (.pre [.can 1 [0, 2, 4], .fixc 1 0 0 5] (.seq (.seq (h_ 12 [p_ 0 10 (m_ 0), c_ 1 11 34 [.t 10], p_ 2 12 (.un 0 (.t 11)), p_ 3 13 (m_ 12), pg_ 4 14 13 false (m_ 0), pg_ 5 15 13 false (n_ 14), pg_ 6 16 13 false (f_ 0 15), rg_ 7 17 13 false (.ld true 3 (.t 16)), rg_ 8 18 13 false (.ld true 2 (.t 4)), cg_ 9 19 13 false 31 [.t 17, .t 18], pg_ 10 20 13 false (.bin 3 0 (.t 19) (i_ 0)), p_ 11 21 (.pick (.t 13) (.c (.bool true)) (.t 20))]) (.cond (.t 21) (.seq (g_ 2 [p_ 0 6 (.mv (i_ 0)), p_ 1 7 (.mv (.c .nilS))]) .ret) .skip)) (.seq (h_ 7 [p_ 0 22 (m_ 0), p_ 1 23 (n_ 22), p_ 2 24 (f_ 9 23), r_ 3 25 (l_ 24), r_ 4 26 (.ld true 2 (.t 4)), r_ 5 27 (.lk 2 (.st [(0, 1, false, .int), (1, 1, false, .int)]) (o_ 0) false (.t 25) (.t 26)), p_ 6 8 (m_ 27)]) (.seq (g_ 11 [p_ 0 28 (m_ 0), p_ 1 29 (n_ 28), p_ 2 30 (f_ 5 29), r_ 3 31 (l_ 30), p_ 4 32 (k_ 31), p_ 5 33 (m_ 8), p_ 6 34 (.bin 0 1 (.t 32) (.t 33)), p_ 7 35 (m_ 2), p_ 8 36 (.mx true (.t 35) (i_ 0)), p_ 9 37 (.mx false (.t 34) (.t 36)), p_ 10 9 (m_ 37)]) (.seq (g_ 13 [p_ 0 38 (m_ 8), p_ 1 39 (m_ 0), p_ 2 40 (n_ 39), p_ 3 41 (f_ 5 40), r_ 4 42 (l_ 41), p_ 5 43 (m_ 8), p_ 6 44 (m_ 8), p_ 7 45 (m_ 9), p_ 8 46 (.bin 0 0 (.t 44) (.t 45)), r_ 9 47 (.sls 18 (.t 42) (some (.t 43)) (some (.t 46)) none), c_ 10 48 33 [.t 47], p_ 11 6 (m_ 38), p_ 12 7 (m_ 48)]) .ret)))))) [(0, [.up 6, .frz 7]), (1, [.up 6, .frz 7])])
theorem ft_since1_ok : chkF Try.prog 21 ft_since1 = true := by kernel_rfl
structure A_since1 where
  l : List Int
  com : Int
  sh : Prop
  c0 : Int
  w : Int
  mo : Int
structure R_since1 where
  h : Value
  o : List Int
  fr : Int
def po_since1 (p : A_since1) (r : R_since1) : Prop := ∃ j : Nat, j < 1 ∧ p.w = (j : Int) ∧ r.fr = [p.c0].getD j 0 ∧ r.o = (p.l.drop ([p.c0].getD j 0).toNat).take (([p.c0].getD j 0 + min ((p.l.length : Int) - [p.c0].getD j 0) (max p.mo 0)).toNat - ([p.c0].getD j 0).toNat)
noncomputable def I_since1 (p : A_since1) : IE := ([.ptr 0 0, .agg [.sy (.int 1 p.w), .int 2 (.ofNat 1)], .sy (.int 0 p.mo)], (Ro1n p.l p.com p.sh p.c0), 4)
noncomputable def out_since1 (p : A_since1) (K : KE) : Bool := allB fun r : R_since1 => ifB (prB (po_since1 p r)) (K (.tup [.sy (.int 0 r.fr), .sy (.imm r.h 18 Int r.o encK)]) (Ro1n p.l p.com p.sh p.c0) 4) true
def pre_since1 (p : A_since1) : Prop := 0 ≤ p.w ∧ p.w < 1 ∧ p.l.length ≤ 1000 ∧ 0 ≤ p.c0 ∧ p.c0 ≤ (p.l.length : Int)
theorem fin_since1 {p : A_since1} {K : KE} (hK : out_since1 p K = true) (r : R_since1) (h : po_since1 p r) : K (.tup [.sy (.int 0 r.fr), .sy (.imm r.h 18 Int r.o encK)]) (Ro1n p.l p.com p.sh p.c0) 4 = true := ifB_use h (allB_ok hK r)
theorem vf_since1 (p : A_since1) (K : KE) (hpre : pre_since1 p) (hK : out_since1 p K = true) : (funE 1 (cfT nat_ack5) noLp 600 ft_since1 (I_since1 p).1 (I_since1 p).2.1 (I_since1 p).2.2 K) = true := by
  refine Eq.trans (b := (let z0 : Bool := (K (.tup [.sy (.int 0 0), .nilS]) (Ro1n p.l p.com p.sh p.c0) 4); ifB (prB (p.w = 0)) (must (prB (InR 0 ((p.l.length : Int) - p.c0))) (must (prB (InR 0 (p.c0 + (min ((p.l.length : Int) - p.c0) (max p.mo (0 : Int)))))) (must (prB (p.l.length = p.l.length ∧ 0 ≤ p.c0 ∧ p.c0 ≤ (p.c0 + (min ((p.l.length : Int) - p.c0) (max p.mo (0 : Int)))) ∧ (p.c0 + (min ((p.l.length : Int) - p.c0) (max p.mo (0 : Int)))) ≤ (p.l.length : Int))) (exB fun p1 : A_clones_psub => must (prB (([.sy (.psub 0 18 p.c0.toNat (((p.c0 + (min ((p.l.length : Int) - p.c0) (max p.mo (0 : Int)))).toNat) - p.c0.toNat))], (.node .leaf (some (.prow 45 18 Int p.l encK)) .leaf), 1) = I_clones_psub p1)) (must (prB (pre_clones_psub p1)) (allB fun r1 : R_clones_psub => ifB (prB (po_clones_psub p1 r1)) (must (prB (r1.o.length = r1.o.length)) (must (prB (r1.o.length = r1.o.length)) (allB fun h1 : Value => K (.tup [.sy (.int 0 p.c0), .sy (.imm h1 18 Int r1.o encK)]) (Ro1 p1.l p.com p.sh p.c0 p.l.length) 4))) true)))))) (ifB (prB (p.w = 1)) z0 (ifB (prB (p.w = 2)) z0 (ifB (prB (p.w = 3)) z0 (ifB (prB (p.w = 4)) z0 (must (prB (False)) (true)))))))) (by kernel_rfl) ?_
  dsimp only [pre_since1] at hpre
  refine ifP (fun hc1 => ?_) (fun hc1 => ?_)
  refine mustP (by simp only [InR] ; omega) ?_
  refine mustP (by simp only [InR] ; omega) ?_
  refine mustP (by (first | omega | (simp [limP] <;> omega))) ?_
  refine callPR (⟨p.l, p.c0.toNat, ((p.c0 + (min ((p.l.length : Int) - p.c0) (max p.mo (0 : Int)))).toNat) - p.c0.toNat⟩ : A_clones_psub) rfl (by (try dsimp only [pre_clones_psub]) ; first | omega | (simp only [List.length_take, List.length_drop] ; omega)) fun r1 hi2 => ?_
  dsimp only [po_clones_psub] at hi2
  refine mustP (rfl) ?_
  refine mustP (rfl) ?_
  refine allB_mk (fun h1 => ?_)
  exact fin_since1 hK ⟨h1, r1.o, p.c0⟩ (by dsimp only [po_since1] <;> (first | (exfalso ; omega) | exact ⟨0, by decide, by omega, rfl, (by assumption : _ ∧ _).1⟩))
  refine ifP (fun hc3 => ?_) (fun hc3 => ?_)
  exfalso ; omega
  refine ifP (fun hc4 => ?_) (fun hc4 => ?_)
  exfalso ; omega
  refine ifP (fun hc5 => ?_) (fun hc5 => ?_)
  exfalso ; omega
  refine ifP (fun hc6 => ?_) (fun hc6 => ?_)
  exfalso ; omega
  refine mustP (by omega) ?_
  rfl
noncomputable def ec_since1 : SpecE := tstE (elB 1 1) (esOf I_since1 (spP pre_since1 out_since1)) (fun _ _ _ _ => false)
theorem nc_since1 : NatE Try.prog 21 1 ec_since1 := tstE_ok (natE_pl (f := 21) (k := 1) (cfT_ok nat_ack5_ok) ft_since1_ok (by rfl) (by rfl) vf_since1) natE_no
noncomputable def nat_since1 := natC nat_ack5 1 ec_since1 21 [(0, 4), (1, 15), (2, 20)]
theorem nat_since1_ok : NatsOk Try.prog nat_since1 := natC_ok nc_since1 nat_ack5_ok
def ft_since2 : XF := ft_since1
theorem ft_since2_ok : chkF Try.prog 21 ft_since2 = true := ft_since1_ok
structure A_since2 where
  l : List Int
  com : Int
  sh : Prop
  c0 : Int
  c1 : Int
  w : Int
  mo : Int
structure R_since2 where
  h : Value
  o : List Int
  fr : Int
def po_since2 (p : A_since2) (r : R_since2) : Prop := ∃ j : Nat, j < 2 ∧ p.w = (j : Int) ∧ r.fr = [p.c0, p.c1].getD j 0 ∧ r.o = (p.l.drop ([p.c0, p.c1].getD j 0).toNat).take (([p.c0, p.c1].getD j 0 + min ((p.l.length : Int) - [p.c0, p.c1].getD j 0) (max p.mo 0)).toNat - ([p.c0, p.c1].getD j 0).toNat)
noncomputable def I_since2 (p : A_since2) : IE := ([.ptr 0 0, .agg [.sy (.int 1 p.w), .int 2 (.ofNat 1)], .sy (.int 0 p.mo)], (Ro2n p.l p.com p.sh p.c0 p.c1), 4)
noncomputable def out_since2 (p : A_since2) (K : KE) : Bool := allB fun r : R_since2 => ifB (prB (po_since2 p r)) (K (.tup [.sy (.int 0 r.fr), .sy (.imm r.h 18 Int r.o encK)]) (Ro2n p.l p.com p.sh p.c0 p.c1) 4) true
def pre_since2 (p : A_since2) : Prop := 0 ≤ p.w ∧ p.w < 2 ∧ p.l.length ≤ 1000 ∧ 0 ≤ p.c0 ∧ p.c0 ≤ (p.l.length : Int) ∧ 0 ≤ p.c1 ∧ p.c1 ≤ (p.l.length : Int)
theorem fin_since2 {p : A_since2} {K : KE} (hK : out_since2 p K = true) (r : R_since2) (h : po_since2 p r) : K (.tup [.sy (.int 0 r.fr), .sy (.imm r.h 18 Int r.o encK)]) (Ro2n p.l p.com p.sh p.c0 p.c1) 4 = true := ifB_use h (allB_ok hK r)
theorem vf_since2 (p : A_since2) (K : KE) (hpre : pre_since2 p) (hK : out_since2 p K = true) : (funE 1 (cfT nat_since1) noLp 600 ft_since2 (I_since2 p).1 (I_since2 p).2.1 (I_since2 p).2.2 K) = true := by
  refine Eq.trans (b := (let z0 : Bool := (K (.tup [.sy (.int 0 0), .nilS]) (Ro2n p.l p.com p.sh p.c0 p.c1) 4); ifB (prB (p.w = 0)) (must (prB (InR 0 ((p.l.length : Int) - p.c0))) (must (prB (InR 0 (p.c0 + (min ((p.l.length : Int) - p.c0) (max p.mo (0 : Int)))))) (must (prB (p.l.length = p.l.length ∧ 0 ≤ p.c0 ∧ p.c0 ≤ (p.c0 + (min ((p.l.length : Int) - p.c0) (max p.mo (0 : Int)))) ∧ (p.c0 + (min ((p.l.length : Int) - p.c0) (max p.mo (0 : Int)))) ≤ (p.l.length : Int))) (exB fun p2 : A_clones_psub => must (prB (([.sy (.psub 0 18 p.c0.toNat (((p.c0 + (min ((p.l.length : Int) - p.c0) (max p.mo (0 : Int)))).toNat) - p.c0.toNat))], (.node .leaf (some (.prow 45 18 Int p.l encK)) .leaf), 1) = I_clones_psub p2)) (must (prB (pre_clones_psub p2)) (allB fun r2 : R_clones_psub => ifB (prB (po_clones_psub p2 r2)) (must (prB (r2.o.length = r2.o.length)) (must (prB (r2.o.length = r2.o.length)) (allB fun h2 : Value => K (.tup [.sy (.int 0 p.c0), .sy (.imm h2 18 Int r2.o encK)]) (Ro2 p2.l p.com p.sh p.c0 p.c1 p.l.length) 4))) true)))))) (ifB (prB (p.w = 1)) (must (prB (InR 0 ((p.l.length : Int) - p.c1))) (must (prB (InR 0 (p.c1 + (min ((p.l.length : Int) - p.c1) (max p.mo (0 : Int)))))) (must (prB (p.l.length = p.l.length ∧ 0 ≤ p.c1 ∧ p.c1 ≤ (p.c1 + (min ((p.l.length : Int) - p.c1) (max p.mo (0 : Int)))) ∧ (p.c1 + (min ((p.l.length : Int) - p.c1) (max p.mo (0 : Int)))) ≤ (p.l.length : Int))) (exB fun p1 : A_clones_psub => must (prB (([.sy (.psub 0 18 p.c1.toNat (((p.c1 + (min ((p.l.length : Int) - p.c1) (max p.mo (0 : Int)))).toNat) - p.c1.toNat))], (.node .leaf (some (.prow 45 18 Int p.l encK)) .leaf), 1) = I_clones_psub p1)) (must (prB (pre_clones_psub p1)) (allB fun r1 : R_clones_psub => ifB (prB (po_clones_psub p1 r1)) (must (prB (r1.o.length = r1.o.length)) (must (prB (r1.o.length = r1.o.length)) (allB fun h1 : Value => K (.tup [.sy (.int 0 p.c1), .sy (.imm h1 18 Int r1.o encK)]) (Ro2 p1.l p.com p.sh p.c0 p.c1 p.l.length) 4))) true)))))) (ifB (prB (p.w = 2)) z0 (ifB (prB (p.w = 3)) z0 (ifB (prB (p.w = 4)) z0 (must (prB (False)) (true)))))))) (by kernel_rfl) ?_
  dsimp only [pre_since2] at hpre
  refine ifP (fun hc1 => ?_) (fun hc1 => ?_)
  refine mustP (by simp only [InR] ; omega) ?_
  refine mustP (by simp only [InR] ; omega) ?_
  refine mustP (by (first | omega | (simp [limP] <;> omega))) ?_
  refine callPR (⟨p.l, p.c0.toNat, ((p.c0 + (min ((p.l.length : Int) - p.c0) (max p.mo (0 : Int)))).toNat) - p.c0.toNat⟩ : A_clones_psub) rfl (by (try dsimp only [pre_clones_psub]) ; first | omega | (simp only [List.length_take, List.length_drop] ; omega)) fun r2 hi2 => ?_
  dsimp only [po_clones_psub] at hi2
  refine mustP (rfl) ?_
  refine mustP (rfl) ?_
  refine allB_mk (fun h2 => ?_)
  exact fin_since2 hK ⟨h2, r2.o, p.c0⟩ (by dsimp only [po_since2] <;> (first | (exfalso ; omega) | exact ⟨0, by decide, by omega, rfl, (by assumption : _ ∧ _).1⟩ | exact ⟨1, by decide, by omega, rfl, (by assumption : _ ∧ _).1⟩))
  refine ifP (fun hc3 => ?_) (fun hc3 => ?_)
  refine mustP (by simp only [InR] ; omega) ?_
  refine mustP (by simp only [InR] ; omega) ?_
  refine mustP (by (first | omega | (simp [limP] <;> omega))) ?_
  refine callPR (⟨p.l, p.c1.toNat, ((p.c1 + (min ((p.l.length : Int) - p.c1) (max p.mo (0 : Int)))).toNat) - p.c1.toNat⟩ : A_clones_psub) rfl (by (try dsimp only [pre_clones_psub]) ; first | omega | (simp only [List.length_take, List.length_drop] ; omega)) fun r1 hi4 => ?_
  dsimp only [po_clones_psub] at hi4
  refine mustP (rfl) ?_
  refine mustP (rfl) ?_
  refine allB_mk (fun h1 => ?_)
  exact fin_since2 hK ⟨h1, r1.o, p.c1⟩ (by dsimp only [po_since2] <;> (first | (exfalso ; omega) | exact ⟨0, by decide, by omega, rfl, (by assumption : _ ∧ _).1⟩ | exact ⟨1, by decide, by omega, rfl, (by assumption : _ ∧ _).1⟩))
  refine ifP (fun hc5 => ?_) (fun hc5 => ?_)
  exfalso ; omega
  refine ifP (fun hc6 => ?_) (fun hc6 => ?_)
  exfalso ; omega
  refine ifP (fun hc7 => ?_) (fun hc7 => ?_)
  exfalso ; omega
  refine mustP (by omega) ?_
  rfl
noncomputable def ec_since2 : SpecE := tstE (elB 1 2) (esOf I_since2 (spP pre_since2 out_since2)) ec_since1
theorem nc_since2 : NatE Try.prog 21 1 ec_since2 := tstE_ok (natE_pl (f := 21) (k := 1) (cfT_ok nat_since1_ok) ft_since2_ok (by rfl) (by rfl) vf_since2) nc_since1
noncomputable def nat_since2 := natC nat_since1 1 ec_since2 21 [(0, 4), (1, 15), (2, 20)]
theorem nat_since2_ok : NatsOk Try.prog nat_since2 := natC_ok nc_since2 nat_since1_ok
def ft_since3 : XF := ft_since1
theorem ft_since3_ok : chkF Try.prog 21 ft_since3 = true := ft_since1_ok
structure A_since3 where
  l : List Int
  com : Int
  sh : Prop
  c0 : Int
  c1 : Int
  c2 : Int
  w : Int
  mo : Int
structure R_since3 where
  h : Value
  o : List Int
  fr : Int
def po_since3 (p : A_since3) (r : R_since3) : Prop := ∃ j : Nat, j < 3 ∧ p.w = (j : Int) ∧ r.fr = [p.c0, p.c1, p.c2].getD j 0 ∧ r.o = (p.l.drop ([p.c0, p.c1, p.c2].getD j 0).toNat).take (([p.c0, p.c1, p.c2].getD j 0 + min ((p.l.length : Int) - [p.c0, p.c1, p.c2].getD j 0) (max p.mo 0)).toNat - ([p.c0, p.c1, p.c2].getD j 0).toNat)
noncomputable def I_since3 (p : A_since3) : IE := ([.ptr 0 0, .agg [.sy (.int 1 p.w), .int 2 (.ofNat 1)], .sy (.int 0 p.mo)], (Ro3n p.l p.com p.sh p.c0 p.c1 p.c2), 4)
noncomputable def out_since3 (p : A_since3) (K : KE) : Bool := allB fun r : R_since3 => ifB (prB (po_since3 p r)) (K (.tup [.sy (.int 0 r.fr), .sy (.imm r.h 18 Int r.o encK)]) (Ro3n p.l p.com p.sh p.c0 p.c1 p.c2) 4) true
def pre_since3 (p : A_since3) : Prop := 0 ≤ p.w ∧ p.w < 3 ∧ p.l.length ≤ 1000 ∧ 0 ≤ p.c0 ∧ p.c0 ≤ (p.l.length : Int) ∧ 0 ≤ p.c1 ∧ p.c1 ≤ (p.l.length : Int) ∧ 0 ≤ p.c2 ∧ p.c2 ≤ (p.l.length : Int)
theorem fin_since3 {p : A_since3} {K : KE} (hK : out_since3 p K = true) (r : R_since3) (h : po_since3 p r) : K (.tup [.sy (.int 0 r.fr), .sy (.imm r.h 18 Int r.o encK)]) (Ro3n p.l p.com p.sh p.c0 p.c1 p.c2) 4 = true := ifB_use h (allB_ok hK r)
theorem vf_since3 (p : A_since3) (K : KE) (hpre : pre_since3 p) (hK : out_since3 p K = true) : (funE 1 (cfT nat_since2) noLp 600 ft_since3 (I_since3 p).1 (I_since3 p).2.1 (I_since3 p).2.2 K) = true := by
  refine Eq.trans (b := (let z0 : Bool := (K (.tup [.sy (.int 0 0), .nilS]) (Ro3n p.l p.com p.sh p.c0 p.c1 p.c2) 4); ifB (prB (p.w = 0)) (must (prB (InR 0 ((p.l.length : Int) - p.c0))) (must (prB (InR 0 (p.c0 + (min ((p.l.length : Int) - p.c0) (max p.mo (0 : Int)))))) (must (prB (p.l.length = p.l.length ∧ 0 ≤ p.c0 ∧ p.c0 ≤ (p.c0 + (min ((p.l.length : Int) - p.c0) (max p.mo (0 : Int)))) ∧ (p.c0 + (min ((p.l.length : Int) - p.c0) (max p.mo (0 : Int)))) ≤ (p.l.length : Int))) (exB fun p3 : A_clones_psub => must (prB (([.sy (.psub 0 18 p.c0.toNat (((p.c0 + (min ((p.l.length : Int) - p.c0) (max p.mo (0 : Int)))).toNat) - p.c0.toNat))], (.node .leaf (some (.prow 45 18 Int p.l encK)) .leaf), 1) = I_clones_psub p3)) (must (prB (pre_clones_psub p3)) (allB fun r3 : R_clones_psub => ifB (prB (po_clones_psub p3 r3)) (must (prB (r3.o.length = r3.o.length)) (must (prB (r3.o.length = r3.o.length)) (allB fun h3 : Value => K (.tup [.sy (.int 0 p.c0), .sy (.imm h3 18 Int r3.o encK)]) (Ro3 p3.l p.com p.sh p.c0 p.c1 p.c2 p.l.length) 4))) true)))))) (ifB (prB (p.w = 1)) (must (prB (InR 0 ((p.l.length : Int) - p.c1))) (must (prB (InR 0 (p.c1 + (min ((p.l.length : Int) - p.c1) (max p.mo (0 : Int)))))) (must (prB (p.l.length = p.l.length ∧ 0 ≤ p.c1 ∧ p.c1 ≤ (p.c1 + (min ((p.l.length : Int) - p.c1) (max p.mo (0 : Int)))) ∧ (p.c1 + (min ((p.l.length : Int) - p.c1) (max p.mo (0 : Int)))) ≤ (p.l.length : Int))) (exB fun p2 : A_clones_psub => must (prB (([.sy (.psub 0 18 p.c1.toNat (((p.c1 + (min ((p.l.length : Int) - p.c1) (max p.mo (0 : Int)))).toNat) - p.c1.toNat))], (.node .leaf (some (.prow 45 18 Int p.l encK)) .leaf), 1) = I_clones_psub p2)) (must (prB (pre_clones_psub p2)) (allB fun r2 : R_clones_psub => ifB (prB (po_clones_psub p2 r2)) (must (prB (r2.o.length = r2.o.length)) (must (prB (r2.o.length = r2.o.length)) (allB fun h2 : Value => K (.tup [.sy (.int 0 p.c1), .sy (.imm h2 18 Int r2.o encK)]) (Ro3 p2.l p.com p.sh p.c0 p.c1 p.c2 p.l.length) 4))) true)))))) (ifB (prB (p.w = 2)) (must (prB (InR 0 ((p.l.length : Int) - p.c2))) (must (prB (InR 0 (p.c2 + (min ((p.l.length : Int) - p.c2) (max p.mo (0 : Int)))))) (must (prB (p.l.length = p.l.length ∧ 0 ≤ p.c2 ∧ p.c2 ≤ (p.c2 + (min ((p.l.length : Int) - p.c2) (max p.mo (0 : Int)))) ∧ (p.c2 + (min ((p.l.length : Int) - p.c2) (max p.mo (0 : Int)))) ≤ (p.l.length : Int))) (exB fun p1 : A_clones_psub => must (prB (([.sy (.psub 0 18 p.c2.toNat (((p.c2 + (min ((p.l.length : Int) - p.c2) (max p.mo (0 : Int)))).toNat) - p.c2.toNat))], (.node .leaf (some (.prow 45 18 Int p.l encK)) .leaf), 1) = I_clones_psub p1)) (must (prB (pre_clones_psub p1)) (allB fun r1 : R_clones_psub => ifB (prB (po_clones_psub p1 r1)) (must (prB (r1.o.length = r1.o.length)) (must (prB (r1.o.length = r1.o.length)) (allB fun h1 : Value => K (.tup [.sy (.int 0 p.c2), .sy (.imm h1 18 Int r1.o encK)]) (Ro3 p1.l p.com p.sh p.c0 p.c1 p.c2 p.l.length) 4))) true)))))) (ifB (prB (p.w = 3)) z0 (ifB (prB (p.w = 4)) z0 (must (prB (False)) (true)))))))) (by kernel_rfl) ?_
  dsimp only [pre_since3] at hpre
  refine ifP (fun hc1 => ?_) (fun hc1 => ?_)
  refine mustP (by simp only [InR] ; omega) ?_
  refine mustP (by simp only [InR] ; omega) ?_
  refine mustP (by (first | omega | (simp [limP] <;> omega))) ?_
  refine callPR (⟨p.l, p.c0.toNat, ((p.c0 + (min ((p.l.length : Int) - p.c0) (max p.mo (0 : Int)))).toNat) - p.c0.toNat⟩ : A_clones_psub) rfl (by (try dsimp only [pre_clones_psub]) ; first | omega | (simp only [List.length_take, List.length_drop] ; omega)) fun r3 hi2 => ?_
  dsimp only [po_clones_psub] at hi2
  refine mustP (rfl) ?_
  refine mustP (rfl) ?_
  refine allB_mk (fun h3 => ?_)
  exact fin_since3 hK ⟨h3, r3.o, p.c0⟩ (by dsimp only [po_since3] <;> (first | (exfalso ; omega) | exact ⟨0, by decide, by omega, rfl, (by assumption : _ ∧ _).1⟩ | exact ⟨1, by decide, by omega, rfl, (by assumption : _ ∧ _).1⟩ | exact ⟨2, by decide, by omega, rfl, (by assumption : _ ∧ _).1⟩))
  refine ifP (fun hc3 => ?_) (fun hc3 => ?_)
  refine mustP (by simp only [InR] ; omega) ?_
  refine mustP (by simp only [InR] ; omega) ?_
  refine mustP (by (first | omega | (simp [limP] <;> omega))) ?_
  refine callPR (⟨p.l, p.c1.toNat, ((p.c1 + (min ((p.l.length : Int) - p.c1) (max p.mo (0 : Int)))).toNat) - p.c1.toNat⟩ : A_clones_psub) rfl (by (try dsimp only [pre_clones_psub]) ; first | omega | (simp only [List.length_take, List.length_drop] ; omega)) fun r2 hi4 => ?_
  dsimp only [po_clones_psub] at hi4
  refine mustP (rfl) ?_
  refine mustP (rfl) ?_
  refine allB_mk (fun h2 => ?_)
  exact fin_since3 hK ⟨h2, r2.o, p.c1⟩ (by dsimp only [po_since3] <;> (first | (exfalso ; omega) | exact ⟨0, by decide, by omega, rfl, (by assumption : _ ∧ _).1⟩ | exact ⟨1, by decide, by omega, rfl, (by assumption : _ ∧ _).1⟩ | exact ⟨2, by decide, by omega, rfl, (by assumption : _ ∧ _).1⟩))
  refine ifP (fun hc5 => ?_) (fun hc5 => ?_)
  refine mustP (by simp only [InR] ; omega) ?_
  refine mustP (by simp only [InR] ; omega) ?_
  refine mustP (by (first | omega | (simp [limP] <;> omega))) ?_
  refine callPR (⟨p.l, p.c2.toNat, ((p.c2 + (min ((p.l.length : Int) - p.c2) (max p.mo (0 : Int)))).toNat) - p.c2.toNat⟩ : A_clones_psub) rfl (by (try dsimp only [pre_clones_psub]) ; first | omega | (simp only [List.length_take, List.length_drop] ; omega)) fun r1 hi6 => ?_
  dsimp only [po_clones_psub] at hi6
  refine mustP (rfl) ?_
  refine mustP (rfl) ?_
  refine allB_mk (fun h1 => ?_)
  exact fin_since3 hK ⟨h1, r1.o, p.c2⟩ (by dsimp only [po_since3] <;> (first | (exfalso ; omega) | exact ⟨0, by decide, by omega, rfl, (by assumption : _ ∧ _).1⟩ | exact ⟨1, by decide, by omega, rfl, (by assumption : _ ∧ _).1⟩ | exact ⟨2, by decide, by omega, rfl, (by assumption : _ ∧ _).1⟩))
  refine ifP (fun hc7 => ?_) (fun hc7 => ?_)
  exfalso ; omega
  refine ifP (fun hc8 => ?_) (fun hc8 => ?_)
  exfalso ; omega
  refine mustP (by omega) ?_
  rfl
noncomputable def ec_since3 : SpecE := tstE (elB 1 3) (esOf I_since3 (spP pre_since3 out_since3)) ec_since2
theorem nc_since3 : NatE Try.prog 21 1 ec_since3 := tstE_ok (natE_pl (f := 21) (k := 1) (cfT_ok nat_since2_ok) ft_since3_ok (by rfl) (by rfl) vf_since3) nc_since2
noncomputable def nat_since3 := natC nat_since2 1 ec_since3 21 [(0, 4), (1, 15), (2, 20)]
theorem nat_since3_ok : NatsOk Try.prog nat_since3 := natC_ok nc_since3 nat_since2_ok
def ft_since4 : XF := ft_since1
theorem ft_since4_ok : chkF Try.prog 21 ft_since4 = true := ft_since1_ok
structure A_since4 where
  l : List Int
  com : Int
  sh : Prop
  c0 : Int
  c1 : Int
  c2 : Int
  c3 : Int
  w : Int
  mo : Int
structure R_since4 where
  h : Value
  o : List Int
  fr : Int
def po_since4 (p : A_since4) (r : R_since4) : Prop := ∃ j : Nat, j < 4 ∧ p.w = (j : Int) ∧ r.fr = [p.c0, p.c1, p.c2, p.c3].getD j 0 ∧ r.o = (p.l.drop ([p.c0, p.c1, p.c2, p.c3].getD j 0).toNat).take (([p.c0, p.c1, p.c2, p.c3].getD j 0 + min ((p.l.length : Int) - [p.c0, p.c1, p.c2, p.c3].getD j 0) (max p.mo 0)).toNat - ([p.c0, p.c1, p.c2, p.c3].getD j 0).toNat)
noncomputable def I_since4 (p : A_since4) : IE := ([.ptr 0 0, .agg [.sy (.int 1 p.w), .int 2 (.ofNat 1)], .sy (.int 0 p.mo)], (Ro4n p.l p.com p.sh p.c0 p.c1 p.c2 p.c3), 4)
noncomputable def out_since4 (p : A_since4) (K : KE) : Bool := allB fun r : R_since4 => ifB (prB (po_since4 p r)) (K (.tup [.sy (.int 0 r.fr), .sy (.imm r.h 18 Int r.o encK)]) (Ro4n p.l p.com p.sh p.c0 p.c1 p.c2 p.c3) 4) true
def pre_since4 (p : A_since4) : Prop := 0 ≤ p.w ∧ p.w < 4 ∧ p.l.length ≤ 1000 ∧ 0 ≤ p.c0 ∧ p.c0 ≤ (p.l.length : Int) ∧ 0 ≤ p.c1 ∧ p.c1 ≤ (p.l.length : Int) ∧ 0 ≤ p.c2 ∧ p.c2 ≤ (p.l.length : Int) ∧ 0 ≤ p.c3 ∧ p.c3 ≤ (p.l.length : Int)
theorem fin_since4 {p : A_since4} {K : KE} (hK : out_since4 p K = true) (r : R_since4) (h : po_since4 p r) : K (.tup [.sy (.int 0 r.fr), .sy (.imm r.h 18 Int r.o encK)]) (Ro4n p.l p.com p.sh p.c0 p.c1 p.c2 p.c3) 4 = true := ifB_use h (allB_ok hK r)
theorem vf_since4 (p : A_since4) (K : KE) (hpre : pre_since4 p) (hK : out_since4 p K = true) : (funE 1 (cfT nat_since3) noLp 600 ft_since4 (I_since4 p).1 (I_since4 p).2.1 (I_since4 p).2.2 K) = true := by
  refine Eq.trans (b := (ifB (prB (p.w = 0)) (must (prB (InR 0 ((p.l.length : Int) - p.c0))) (must (prB (InR 0 (p.c0 + (min ((p.l.length : Int) - p.c0) (max p.mo (0 : Int)))))) (must (prB (p.l.length = p.l.length ∧ 0 ≤ p.c0 ∧ p.c0 ≤ (p.c0 + (min ((p.l.length : Int) - p.c0) (max p.mo (0 : Int)))) ∧ (p.c0 + (min ((p.l.length : Int) - p.c0) (max p.mo (0 : Int)))) ≤ (p.l.length : Int))) (exB fun p4 : A_clones_psub => must (prB (([.sy (.psub 0 18 p.c0.toNat (((p.c0 + (min ((p.l.length : Int) - p.c0) (max p.mo (0 : Int)))).toNat) - p.c0.toNat))], (.node .leaf (some (.prow 45 18 Int p.l encK)) .leaf), 1) = I_clones_psub p4)) (must (prB (pre_clones_psub p4)) (allB fun r4 : R_clones_psub => ifB (prB (po_clones_psub p4 r4)) (must (prB (r4.o.length = r4.o.length)) (must (prB (r4.o.length = r4.o.length)) (allB fun h4 : Value => K (.tup [.sy (.int 0 p.c0), .sy (.imm h4 18 Int r4.o encK)]) (Ro4 p4.l p.com p.sh p.c0 p.c1 p.c2 p.c3 p.l.length) 4))) true)))))) (ifB (prB (p.w = 1)) (must (prB (InR 0 ((p.l.length : Int) - p.c1))) (must (prB (InR 0 (p.c1 + (min ((p.l.length : Int) - p.c1) (max p.mo (0 : Int)))))) (must (prB (p.l.length = p.l.length ∧ 0 ≤ p.c1 ∧ p.c1 ≤ (p.c1 + (min ((p.l.length : Int) - p.c1) (max p.mo (0 : Int)))) ∧ (p.c1 + (min ((p.l.length : Int) - p.c1) (max p.mo (0 : Int)))) ≤ (p.l.length : Int))) (exB fun p3 : A_clones_psub => must (prB (([.sy (.psub 0 18 p.c1.toNat (((p.c1 + (min ((p.l.length : Int) - p.c1) (max p.mo (0 : Int)))).toNat) - p.c1.toNat))], (.node .leaf (some (.prow 45 18 Int p.l encK)) .leaf), 1) = I_clones_psub p3)) (must (prB (pre_clones_psub p3)) (allB fun r3 : R_clones_psub => ifB (prB (po_clones_psub p3 r3)) (must (prB (r3.o.length = r3.o.length)) (must (prB (r3.o.length = r3.o.length)) (allB fun h3 : Value => K (.tup [.sy (.int 0 p.c1), .sy (.imm h3 18 Int r3.o encK)]) (Ro4 p3.l p.com p.sh p.c0 p.c1 p.c2 p.c3 p.l.length) 4))) true)))))) (ifB (prB (p.w = 2)) (must (prB (InR 0 ((p.l.length : Int) - p.c2))) (must (prB (InR 0 (p.c2 + (min ((p.l.length : Int) - p.c2) (max p.mo (0 : Int)))))) (must (prB (p.l.length = p.l.length ∧ 0 ≤ p.c2 ∧ p.c2 ≤ (p.c2 + (min ((p.l.length : Int) - p.c2) (max p.mo (0 : Int)))) ∧ (p.c2 + (min ((p.l.length : Int) - p.c2) (max p.mo (0 : Int)))) ≤ (p.l.length : Int))) (exB fun p2 : A_clones_psub => must (prB (([.sy (.psub 0 18 p.c2.toNat (((p.c2 + (min ((p.l.length : Int) - p.c2) (max p.mo (0 : Int)))).toNat) - p.c2.toNat))], (.node .leaf (some (.prow 45 18 Int p.l encK)) .leaf), 1) = I_clones_psub p2)) (must (prB (pre_clones_psub p2)) (allB fun r2 : R_clones_psub => ifB (prB (po_clones_psub p2 r2)) (must (prB (r2.o.length = r2.o.length)) (must (prB (r2.o.length = r2.o.length)) (allB fun h2 : Value => K (.tup [.sy (.int 0 p.c2), .sy (.imm h2 18 Int r2.o encK)]) (Ro4 p2.l p.com p.sh p.c0 p.c1 p.c2 p.c3 p.l.length) 4))) true)))))) (ifB (prB (p.w = 3)) (must (prB (InR 0 ((p.l.length : Int) - p.c3))) (must (prB (InR 0 (p.c3 + (min ((p.l.length : Int) - p.c3) (max p.mo (0 : Int)))))) (must (prB (p.l.length = p.l.length ∧ 0 ≤ p.c3 ∧ p.c3 ≤ (p.c3 + (min ((p.l.length : Int) - p.c3) (max p.mo (0 : Int)))) ∧ (p.c3 + (min ((p.l.length : Int) - p.c3) (max p.mo (0 : Int)))) ≤ (p.l.length : Int))) (exB fun p1 : A_clones_psub => must (prB (([.sy (.psub 0 18 p.c3.toNat (((p.c3 + (min ((p.l.length : Int) - p.c3) (max p.mo (0 : Int)))).toNat) - p.c3.toNat))], (.node .leaf (some (.prow 45 18 Int p.l encK)) .leaf), 1) = I_clones_psub p1)) (must (prB (pre_clones_psub p1)) (allB fun r1 : R_clones_psub => ifB (prB (po_clones_psub p1 r1)) (must (prB (r1.o.length = r1.o.length)) (must (prB (r1.o.length = r1.o.length)) (allB fun h1 : Value => K (.tup [.sy (.int 0 p.c3), .sy (.imm h1 18 Int r1.o encK)]) (Ro4 p1.l p.com p.sh p.c0 p.c1 p.c2 p.c3 p.l.length) 4))) true)))))) (ifB (prB (p.w = 4)) (K (.tup [.sy (.int 0 0), .nilS]) (Ro4n p.l p.com p.sh p.c0 p.c1 p.c2 p.c3) 4) (must (prB (False)) (true)))))))) (by kernel_rfl) ?_
  dsimp only [pre_since4] at hpre
  refine ifP (fun hc1 => ?_) (fun hc1 => ?_)
  refine mustP (by simp only [InR] ; omega) ?_
  refine mustP (by simp only [InR] ; omega) ?_
  refine mustP (by (first | omega | (simp [limP] <;> omega))) ?_
  refine callPR (⟨p.l, p.c0.toNat, ((p.c0 + (min ((p.l.length : Int) - p.c0) (max p.mo (0 : Int)))).toNat) - p.c0.toNat⟩ : A_clones_psub) rfl (by (try dsimp only [pre_clones_psub]) ; first | omega | (simp only [List.length_take, List.length_drop] ; omega)) fun r4 hi2 => ?_
  dsimp only [po_clones_psub] at hi2
  refine mustP (rfl) ?_
  refine mustP (rfl) ?_
  refine allB_mk (fun h4 => ?_)
  exact fin_since4 hK ⟨h4, r4.o, p.c0⟩ (by dsimp only [po_since4] <;> (first | (exfalso ; omega) | exact ⟨0, by decide, by omega, rfl, (by assumption : _ ∧ _).1⟩ | exact ⟨1, by decide, by omega, rfl, (by assumption : _ ∧ _).1⟩ | exact ⟨2, by decide, by omega, rfl, (by assumption : _ ∧ _).1⟩ | exact ⟨3, by decide, by omega, rfl, (by assumption : _ ∧ _).1⟩))
  refine ifP (fun hc3 => ?_) (fun hc3 => ?_)
  refine mustP (by simp only [InR] ; omega) ?_
  refine mustP (by simp only [InR] ; omega) ?_
  refine mustP (by (first | omega | (simp [limP] <;> omega))) ?_
  refine callPR (⟨p.l, p.c1.toNat, ((p.c1 + (min ((p.l.length : Int) - p.c1) (max p.mo (0 : Int)))).toNat) - p.c1.toNat⟩ : A_clones_psub) rfl (by (try dsimp only [pre_clones_psub]) ; first | omega | (simp only [List.length_take, List.length_drop] ; omega)) fun r3 hi4 => ?_
  dsimp only [po_clones_psub] at hi4
  refine mustP (rfl) ?_
  refine mustP (rfl) ?_
  refine allB_mk (fun h3 => ?_)
  exact fin_since4 hK ⟨h3, r3.o, p.c1⟩ (by dsimp only [po_since4] <;> (first | (exfalso ; omega) | exact ⟨0, by decide, by omega, rfl, (by assumption : _ ∧ _).1⟩ | exact ⟨1, by decide, by omega, rfl, (by assumption : _ ∧ _).1⟩ | exact ⟨2, by decide, by omega, rfl, (by assumption : _ ∧ _).1⟩ | exact ⟨3, by decide, by omega, rfl, (by assumption : _ ∧ _).1⟩))
  refine ifP (fun hc5 => ?_) (fun hc5 => ?_)
  refine mustP (by simp only [InR] ; omega) ?_
  refine mustP (by simp only [InR] ; omega) ?_
  refine mustP (by (first | omega | (simp [limP] <;> omega))) ?_
  refine callPR (⟨p.l, p.c2.toNat, ((p.c2 + (min ((p.l.length : Int) - p.c2) (max p.mo (0 : Int)))).toNat) - p.c2.toNat⟩ : A_clones_psub) rfl (by (try dsimp only [pre_clones_psub]) ; first | omega | (simp only [List.length_take, List.length_drop] ; omega)) fun r2 hi6 => ?_
  dsimp only [po_clones_psub] at hi6
  refine mustP (rfl) ?_
  refine mustP (rfl) ?_
  refine allB_mk (fun h2 => ?_)
  exact fin_since4 hK ⟨h2, r2.o, p.c2⟩ (by dsimp only [po_since4] <;> (first | (exfalso ; omega) | exact ⟨0, by decide, by omega, rfl, (by assumption : _ ∧ _).1⟩ | exact ⟨1, by decide, by omega, rfl, (by assumption : _ ∧ _).1⟩ | exact ⟨2, by decide, by omega, rfl, (by assumption : _ ∧ _).1⟩ | exact ⟨3, by decide, by omega, rfl, (by assumption : _ ∧ _).1⟩))
  refine ifP (fun hc7 => ?_) (fun hc7 => ?_)
  refine mustP (by simp only [InR] ; omega) ?_
  refine mustP (by simp only [InR] ; omega) ?_
  refine mustP (by (first | omega | (simp [limP] <;> omega))) ?_
  refine callPR (⟨p.l, p.c3.toNat, ((p.c3 + (min ((p.l.length : Int) - p.c3) (max p.mo (0 : Int)))).toNat) - p.c3.toNat⟩ : A_clones_psub) rfl (by (try dsimp only [pre_clones_psub]) ; first | omega | (simp only [List.length_take, List.length_drop] ; omega)) fun r1 hi8 => ?_
  dsimp only [po_clones_psub] at hi8
  refine mustP (rfl) ?_
  refine mustP (rfl) ?_
  refine allB_mk (fun h1 => ?_)
  exact fin_since4 hK ⟨h1, r1.o, p.c3⟩ (by dsimp only [po_since4] <;> (first | (exfalso ; omega) | exact ⟨0, by decide, by omega, rfl, (by assumption : _ ∧ _).1⟩ | exact ⟨1, by decide, by omega, rfl, (by assumption : _ ∧ _).1⟩ | exact ⟨2, by decide, by omega, rfl, (by assumption : _ ∧ _).1⟩ | exact ⟨3, by decide, by omega, rfl, (by assumption : _ ∧ _).1⟩))
  refine ifP (fun hc9 => ?_) (fun hc9 => ?_)
  exfalso ; omega
  refine mustP (by omega) ?_
  rfl
noncomputable def ec_since4 : SpecE := tstE (elB 1 4) (esOf I_since4 (spP pre_since4 out_since4)) ec_since3
theorem nc_since4 : NatE Try.prog 21 1 ec_since4 := tstE_ok (natE_pl (f := 21) (k := 1) (cfT_ok nat_since3_ok) ft_since4_ok (by rfl) (by rfl) vf_since4) nc_since3
noncomputable def nat_since4 := natC nat_since3 1 ec_since4 21 [(0, 4), (1, 15), (2, 20)]
theorem nat_since4_ok : NatsOk Try.prog nat_since4 := natC_ok nc_since4 nat_since3_ok
def ft_since5 : XF := ft_since1
theorem ft_since5_ok : chkF Try.prog 21 ft_since5 = true := ft_since1_ok
structure A_since5 where
  l : List Int
  com : Int
  sh : Prop
  c0 : Int
  c1 : Int
  c2 : Int
  c3 : Int
  c4 : Int
  w : Int
  mo : Int
structure R_since5 where
  h : Value
  o : List Int
  fr : Int
def po_since5 (p : A_since5) (r : R_since5) : Prop := ∃ j : Nat, j < 5 ∧ p.w = (j : Int) ∧ r.fr = [p.c0, p.c1, p.c2, p.c3, p.c4].getD j 0 ∧ r.o = (p.l.drop ([p.c0, p.c1, p.c2, p.c3, p.c4].getD j 0).toNat).take (([p.c0, p.c1, p.c2, p.c3, p.c4].getD j 0 + min ((p.l.length : Int) - [p.c0, p.c1, p.c2, p.c3, p.c4].getD j 0) (max p.mo 0)).toNat - ([p.c0, p.c1, p.c2, p.c3, p.c4].getD j 0).toNat)
noncomputable def I_since5 (p : A_since5) : IE := ([.ptr 0 0, .agg [.sy (.int 1 p.w), .int 2 (.ofNat 1)], .sy (.int 0 p.mo)], (Ro5n p.l p.com p.sh p.c0 p.c1 p.c2 p.c3 p.c4), 4)
noncomputable def out_since5 (p : A_since5) (K : KE) : Bool := allB fun r : R_since5 => ifB (prB (po_since5 p r)) (K (.tup [.sy (.int 0 r.fr), .sy (.imm r.h 18 Int r.o encK)]) (Ro5n p.l p.com p.sh p.c0 p.c1 p.c2 p.c3 p.c4) 4) true
def pre_since5 (p : A_since5) : Prop := 0 ≤ p.w ∧ p.w < 5 ∧ p.l.length ≤ 1000 ∧ 0 ≤ p.c0 ∧ p.c0 ≤ (p.l.length : Int) ∧ 0 ≤ p.c1 ∧ p.c1 ≤ (p.l.length : Int) ∧ 0 ≤ p.c2 ∧ p.c2 ≤ (p.l.length : Int) ∧ 0 ≤ p.c3 ∧ p.c3 ≤ (p.l.length : Int) ∧ 0 ≤ p.c4 ∧ p.c4 ≤ (p.l.length : Int)
theorem fin_since5 {p : A_since5} {K : KE} (hK : out_since5 p K = true) (r : R_since5) (h : po_since5 p r) : K (.tup [.sy (.int 0 r.fr), .sy (.imm r.h 18 Int r.o encK)]) (Ro5n p.l p.com p.sh p.c0 p.c1 p.c2 p.c3 p.c4) 4 = true := ifB_use h (allB_ok hK r)
theorem vf_since5 (p : A_since5) (K : KE) (hpre : pre_since5 p) (hK : out_since5 p K = true) : (funE 1 (cfT nat_since4) noLp 600 ft_since5 (I_since5 p).1 (I_since5 p).2.1 (I_since5 p).2.2 K) = true := by
  refine Eq.trans (b := (ifB (prB (p.w = 0)) (must (prB (InR 0 ((p.l.length : Int) - p.c0))) (must (prB (InR 0 (p.c0 + (min ((p.l.length : Int) - p.c0) (max p.mo (0 : Int)))))) (must (prB (p.l.length = p.l.length ∧ 0 ≤ p.c0 ∧ p.c0 ≤ (p.c0 + (min ((p.l.length : Int) - p.c0) (max p.mo (0 : Int)))) ∧ (p.c0 + (min ((p.l.length : Int) - p.c0) (max p.mo (0 : Int)))) ≤ (p.l.length : Int))) (exB fun p5 : A_clones_psub => must (prB (([.sy (.psub 0 18 p.c0.toNat (((p.c0 + (min ((p.l.length : Int) - p.c0) (max p.mo (0 : Int)))).toNat) - p.c0.toNat))], (.node .leaf (some (.prow 45 18 Int p.l encK)) .leaf), 1) = I_clones_psub p5)) (must (prB (pre_clones_psub p5)) (allB fun r5 : R_clones_psub => ifB (prB (po_clones_psub p5 r5)) (must (prB (r5.o.length = r5.o.length)) (must (prB (r5.o.length = r5.o.length)) (allB fun h5 : Value => K (.tup [.sy (.int 0 p.c0), .sy (.imm h5 18 Int r5.o encK)]) (Ro5 p5.l p.com p.sh p.c0 p.c1 p.c2 p.c3 p.c4 p.l.length) 4))) true)))))) (ifB (prB (p.w = 1)) (must (prB (InR 0 ((p.l.length : Int) - p.c1))) (must (prB (InR 0 (p.c1 + (min ((p.l.length : Int) - p.c1) (max p.mo (0 : Int)))))) (must (prB (p.l.length = p.l.length ∧ 0 ≤ p.c1 ∧ p.c1 ≤ (p.c1 + (min ((p.l.length : Int) - p.c1) (max p.mo (0 : Int)))) ∧ (p.c1 + (min ((p.l.length : Int) - p.c1) (max p.mo (0 : Int)))) ≤ (p.l.length : Int))) (exB fun p4 : A_clones_psub => must (prB (([.sy (.psub 0 18 p.c1.toNat (((p.c1 + (min ((p.l.length : Int) - p.c1) (max p.mo (0 : Int)))).toNat) - p.c1.toNat))], (.node .leaf (some (.prow 45 18 Int p.l encK)) .leaf), 1) = I_clones_psub p4)) (must (prB (pre_clones_psub p4)) (allB fun r4 : R_clones_psub => ifB (prB (po_clones_psub p4 r4)) (must (prB (r4.o.length = r4.o.length)) (must (prB (r4.o.length = r4.o.length)) (allB fun h4 : Value => K (.tup [.sy (.int 0 p.c1), .sy (.imm h4 18 Int r4.o encK)]) (Ro5 p4.l p.com p.sh p.c0 p.c1 p.c2 p.c3 p.c4 p.l.length) 4))) true)))))) (ifB (prB (p.w = 2)) (must (prB (InR 0 ((p.l.length : Int) - p.c2))) (must (prB (InR 0 (p.c2 + (min ((p.l.length : Int) - p.c2) (max p.mo (0 : Int)))))) (must (prB (p.l.length = p.l.length ∧ 0 ≤ p.c2 ∧ p.c2 ≤ (p.c2 + (min ((p.l.length : Int) - p.c2) (max p.mo (0 : Int)))) ∧ (p.c2 + (min ((p.l.length : Int) - p.c2) (max p.mo (0 : Int)))) ≤ (p.l.length : Int))) (exB fun p3 : A_clones_psub => must (prB (([.sy (.psub 0 18 p.c2.toNat (((p.c2 + (min ((p.l.length : Int) - p.c2) (max p.mo (0 : Int)))).toNat) - p.c2.toNat))], (.node .leaf (some (.prow 45 18 Int p.l encK)) .leaf), 1) = I_clones_psub p3)) (must (prB (pre_clones_psub p3)) (allB fun r3 : R_clones_psub => ifB (prB (po_clones_psub p3 r3)) (must (prB (r3.o.length = r3.o.length)) (must (prB (r3.o.length = r3.o.length)) (allB fun h3 : Value => K (.tup [.sy (.int 0 p.c2), .sy (.imm h3 18 Int r3.o encK)]) (Ro5 p3.l p.com p.sh p.c0 p.c1 p.c2 p.c3 p.c4 p.l.length) 4))) true)))))) (ifB (prB (p.w = 3)) (must (prB (InR 0 ((p.l.length : Int) - p.c3))) (must (prB (InR 0 (p.c3 + (min ((p.l.length : Int) - p.c3) (max p.mo (0 : Int)))))) (must (prB (p.l.length = p.l.length ∧ 0 ≤ p.c3 ∧ p.c3 ≤ (p.c3 + (min ((p.l.length : Int) - p.c3) (max p.mo (0 : Int)))) ∧ (p.c3 + (min ((p.l.length : Int) - p.c3) (max p.mo (0 : Int)))) ≤ (p.l.length : Int))) (exB fun p2 : A_clones_psub => must (prB (([.sy (.psub 0 18 p.c3.toNat (((p.c3 + (min ((p.l.length : Int) - p.c3) (max p.mo (0 : Int)))).toNat) - p.c3.toNat))], (.node .leaf (some (.prow 45 18 Int p.l encK)) .leaf), 1) = I_clones_psub p2)) (must (prB (pre_clones_psub p2)) (allB fun r2 : R_clones_psub => ifB (prB (po_clones_psub p2 r2)) (must (prB (r2.o.length = r2.o.length)) (must (prB (r2.o.length = r2.o.length)) (allB fun h2 : Value => K (.tup [.sy (.int 0 p.c3), .sy (.imm h2 18 Int r2.o encK)]) (Ro5 p2.l p.com p.sh p.c0 p.c1 p.c2 p.c3 p.c4 p.l.length) 4))) true)))))) (ifB (prB (p.w = 4)) (must (prB (InR 0 ((p.l.length : Int) - p.c4))) (must (prB (InR 0 (p.c4 + (min ((p.l.length : Int) - p.c4) (max p.mo (0 : Int)))))) (must (prB (p.l.length = p.l.length ∧ 0 ≤ p.c4 ∧ p.c4 ≤ (p.c4 + (min ((p.l.length : Int) - p.c4) (max p.mo (0 : Int)))) ∧ (p.c4 + (min ((p.l.length : Int) - p.c4) (max p.mo (0 : Int)))) ≤ (p.l.length : Int))) (exB fun p1 : A_clones_psub => must (prB (([.sy (.psub 0 18 p.c4.toNat (((p.c4 + (min ((p.l.length : Int) - p.c4) (max p.mo (0 : Int)))).toNat) - p.c4.toNat))], (.node .leaf (some (.prow 45 18 Int p.l encK)) .leaf), 1) = I_clones_psub p1)) (must (prB (pre_clones_psub p1)) (allB fun r1 : R_clones_psub => ifB (prB (po_clones_psub p1 r1)) (must (prB (r1.o.length = r1.o.length)) (must (prB (r1.o.length = r1.o.length)) (allB fun h1 : Value => K (.tup [.sy (.int 0 p.c4), .sy (.imm h1 18 Int r1.o encK)]) (Ro5 p1.l p.com p.sh p.c0 p.c1 p.c2 p.c3 p.c4 p.l.length) 4))) true)))))) (must (prB (False)) (true)))))))) (by kernel_rfl) ?_
  dsimp only [pre_since5] at hpre
  refine ifP (fun hc1 => ?_) (fun hc1 => ?_)
  refine mustP (by simp only [InR] ; omega) ?_
  refine mustP (by simp only [InR] ; omega) ?_
  refine mustP (by (first | omega | (simp [limP] <;> omega))) ?_
  refine callPR (⟨p.l, p.c0.toNat, ((p.c0 + (min ((p.l.length : Int) - p.c0) (max p.mo (0 : Int)))).toNat) - p.c0.toNat⟩ : A_clones_psub) rfl (by (try dsimp only [pre_clones_psub]) ; first | omega | (simp only [List.length_take, List.length_drop] ; omega)) fun r5 hi2 => ?_
  dsimp only [po_clones_psub] at hi2
  refine mustP (rfl) ?_
  refine mustP (rfl) ?_
  refine allB_mk (fun h5 => ?_)
  exact fin_since5 hK ⟨h5, r5.o, p.c0⟩ (by dsimp only [po_since5] <;> (first | (exfalso ; omega) | exact ⟨0, by decide, by omega, rfl, (by assumption : _ ∧ _).1⟩ | exact ⟨1, by decide, by omega, rfl, (by assumption : _ ∧ _).1⟩ | exact ⟨2, by decide, by omega, rfl, (by assumption : _ ∧ _).1⟩ | exact ⟨3, by decide, by omega, rfl, (by assumption : _ ∧ _).1⟩ | exact ⟨4, by decide, by omega, rfl, (by assumption : _ ∧ _).1⟩))
  refine ifP (fun hc3 => ?_) (fun hc3 => ?_)
  refine mustP (by simp only [InR] ; omega) ?_
  refine mustP (by simp only [InR] ; omega) ?_
  refine mustP (by (first | omega | (simp [limP] <;> omega))) ?_
  refine callPR (⟨p.l, p.c1.toNat, ((p.c1 + (min ((p.l.length : Int) - p.c1) (max p.mo (0 : Int)))).toNat) - p.c1.toNat⟩ : A_clones_psub) rfl (by (try dsimp only [pre_clones_psub]) ; first | omega | (simp only [List.length_take, List.length_drop] ; omega)) fun r4 hi4 => ?_
  dsimp only [po_clones_psub] at hi4
  refine mustP (rfl) ?_
  refine mustP (rfl) ?_
  refine allB_mk (fun h4 => ?_)
  exact fin_since5 hK ⟨h4, r4.o, p.c1⟩ (by dsimp only [po_since5] <;> (first | (exfalso ; omega) | exact ⟨0, by decide, by omega, rfl, (by assumption : _ ∧ _).1⟩ | exact ⟨1, by decide, by omega, rfl, (by assumption : _ ∧ _).1⟩ | exact ⟨2, by decide, by omega, rfl, (by assumption : _ ∧ _).1⟩ | exact ⟨3, by decide, by omega, rfl, (by assumption : _ ∧ _).1⟩ | exact ⟨4, by decide, by omega, rfl, (by assumption : _ ∧ _).1⟩))
  refine ifP (fun hc5 => ?_) (fun hc5 => ?_)
  refine mustP (by simp only [InR] ; omega) ?_
  refine mustP (by simp only [InR] ; omega) ?_
  refine mustP (by (first | omega | (simp [limP] <;> omega))) ?_
  refine callPR (⟨p.l, p.c2.toNat, ((p.c2 + (min ((p.l.length : Int) - p.c2) (max p.mo (0 : Int)))).toNat) - p.c2.toNat⟩ : A_clones_psub) rfl (by (try dsimp only [pre_clones_psub]) ; first | omega | (simp only [List.length_take, List.length_drop] ; omega)) fun r3 hi6 => ?_
  dsimp only [po_clones_psub] at hi6
  refine mustP (rfl) ?_
  refine mustP (rfl) ?_
  refine allB_mk (fun h3 => ?_)
  exact fin_since5 hK ⟨h3, r3.o, p.c2⟩ (by dsimp only [po_since5] <;> (first | (exfalso ; omega) | exact ⟨0, by decide, by omega, rfl, (by assumption : _ ∧ _).1⟩ | exact ⟨1, by decide, by omega, rfl, (by assumption : _ ∧ _).1⟩ | exact ⟨2, by decide, by omega, rfl, (by assumption : _ ∧ _).1⟩ | exact ⟨3, by decide, by omega, rfl, (by assumption : _ ∧ _).1⟩ | exact ⟨4, by decide, by omega, rfl, (by assumption : _ ∧ _).1⟩))
  refine ifP (fun hc7 => ?_) (fun hc7 => ?_)
  refine mustP (by simp only [InR] ; omega) ?_
  refine mustP (by simp only [InR] ; omega) ?_
  refine mustP (by (first | omega | (simp [limP] <;> omega))) ?_
  refine callPR (⟨p.l, p.c3.toNat, ((p.c3 + (min ((p.l.length : Int) - p.c3) (max p.mo (0 : Int)))).toNat) - p.c3.toNat⟩ : A_clones_psub) rfl (by (try dsimp only [pre_clones_psub]) ; first | omega | (simp only [List.length_take, List.length_drop] ; omega)) fun r2 hi8 => ?_
  dsimp only [po_clones_psub] at hi8
  refine mustP (rfl) ?_
  refine mustP (rfl) ?_
  refine allB_mk (fun h2 => ?_)
  exact fin_since5 hK ⟨h2, r2.o, p.c3⟩ (by dsimp only [po_since5] <;> (first | (exfalso ; omega) | exact ⟨0, by decide, by omega, rfl, (by assumption : _ ∧ _).1⟩ | exact ⟨1, by decide, by omega, rfl, (by assumption : _ ∧ _).1⟩ | exact ⟨2, by decide, by omega, rfl, (by assumption : _ ∧ _).1⟩ | exact ⟨3, by decide, by omega, rfl, (by assumption : _ ∧ _).1⟩ | exact ⟨4, by decide, by omega, rfl, (by assumption : _ ∧ _).1⟩))
  refine ifP (fun hc9 => ?_) (fun hc9 => ?_)
  refine mustP (by simp only [InR] ; omega) ?_
  refine mustP (by simp only [InR] ; omega) ?_
  refine mustP (by (first | omega | (simp [limP] <;> omega))) ?_
  refine callPR (⟨p.l, p.c4.toNat, ((p.c4 + (min ((p.l.length : Int) - p.c4) (max p.mo (0 : Int)))).toNat) - p.c4.toNat⟩ : A_clones_psub) rfl (by (try dsimp only [pre_clones_psub]) ; first | omega | (simp only [List.length_take, List.length_drop] ; omega)) fun r1 hi10 => ?_
  dsimp only [po_clones_psub] at hi10
  refine mustP (rfl) ?_
  refine mustP (rfl) ?_
  refine allB_mk (fun h1 => ?_)
  exact fin_since5 hK ⟨h1, r1.o, p.c4⟩ (by dsimp only [po_since5] <;> (first | (exfalso ; omega) | exact ⟨0, by decide, by omega, rfl, (by assumption : _ ∧ _).1⟩ | exact ⟨1, by decide, by omega, rfl, (by assumption : _ ∧ _).1⟩ | exact ⟨2, by decide, by omega, rfl, (by assumption : _ ∧ _).1⟩ | exact ⟨3, by decide, by omega, rfl, (by assumption : _ ∧ _).1⟩ | exact ⟨4, by decide, by omega, rfl, (by assumption : _ ∧ _).1⟩))
  refine mustP (by omega) ?_
  rfl
noncomputable def ec_since5 : SpecE := tstE (elB 1 5) (esOf I_since5 (spP pre_since5 out_since5)) ec_since4
theorem nc_since5 : NatE Try.prog 21 1 ec_since5 := tstE_ok (natE_pl (f := 21) (k := 1) (cfT_ok nat_since4_ok) ft_since5_ok (by rfl) (by rfl) vf_since5) nc_since4
noncomputable def nat_since5 := natC nat_since4 1 ec_since5 21 [(0, 4), (1, 15), (2, 20)]
theorem nat_since5_ok : NatsOk Try.prog nat_since5 := natC_ok nc_since5 nat_since4_ok
end Go.Proofs.Try

namespace Go.Proofs.Try
open Go Go.RowKit Go.Sy
open Go.Eng hiding allB
set_option maxRecDepth 1000000
set_option linter.unusedVariables false
set_option maxHeartbeats 4000000
def ft_take2 : XF := .mk 85 (.one 8) (.aft (.seq (g_ 1 [p_ 0 8 (.mv (.c (.bool false)))]) (.seq (.seq (g_ 30 [p_ 0 10 (m_ 0), c_ 1 11 38 [.t 10], p_ 2 12 (m_ 11), pg_ 3 13 12 false (m_ 0), cg_ 4 14 12 false 34 [.t 13], p_ 5 15 (.pick (.t 12) (.c (.bool true)) (.t 14)), p_ 6 16 (m_ 15), pg_ 7 17 16 false (m_ 1), pg_ 8 18 16 false (m_ 0), pg_ 9 19 16 false (n_ 18), pg_ 10 20 16 false (f_ 6 19), rg_ 11 21 16 false (l_ 20), pg_ 12 22 16 false (.bin 3 0 (.t 17) (.t 21)), p_ 13 23 (.pick (.t 16) (.c (.bool true)) (.t 22)), p_ 14 24 (m_ 23), pg_ 15 25 24 false (m_ 1), pg_ 16 26 24 false (m_ 0), pg_ 17 27 24 false (n_ 26), pg_ 18 28 24 false (f_ 5 27), rg_ 19 29 24 false (l_ 28), pg_ 20 30 24 false (k_ 29), pg_ 21 31 24 false (.bin 3 2 (.t 25) (.t 30)), p_ 22 32 (.pick (.t 24) (.c (.bool true)) (.t 31)), p_ 23 33 (m_ 32), pg_ 24 34 33 false (m_ 2), pg_ 25 35 33 false (k_ 34), pg_ 26 36 33 false (m_ 1), pg_ 27 37 33 false (.bin 0 1 (i_ 400) (.t 36)), pg_ 28 38 33 false (.bin 3 2 (.t 35) (.t 37)), p_ 29 39 (.pick (.t 33) (.c (.bool true)) (.t 38))]) (.cond (.t 39) (.seq (g_ 1 [p_ 0 8 (.mv (.c (.bool false)))]) .ret) .skip)) (.seq (.seq (g_ 8 [p_ 0 40 (m_ 0), p_ 1 41 (n_ 40), p_ 2 42 (f_ 5 41), r_ 3 43 (l_ 42), p_ 4 44 (k_ 43), p_ 5 45 (m_ 1), p_ 6 46 (.bin 0 1 (.t 44) (.t 45)), p_ 7 9 (m_ 46)]) (.seq (g_ 11 [p_ 0 47 (m_ 0), p_ 1 48 (n_ 47), p_ 2 49 (f_ 8 48), r_ 3 50 (l_ 49), p_ 4 51 (.un 0 (.t 50)), p_ 5 52 (m_ 51), pg_ 6 53 52 true (m_ 9), pg_ 7 54 52 true (m_ 2), pg_ 8 55 52 true (k_ 54), pg_ 9 56 52 true (.bin 3 0 (.t 53) (.t 55)), p_ 10 57 (.pick (.t 52) (.t 56) (.c (.bool false)))]) (.cond (.t 57) (h_ 13 [p_ 0 58 (m_ 0), p_ 1 59 (m_ 0), p_ 2 60 (n_ 59), p_ 3 61 (f_ 5 60), r_ 4 62 (l_ 61), p_ 5 63 (m_ 2), p_ 6 64 (m_ 9), r_ 7 65 (.sls 18 (.t 63) (some (.t 64)) none none), c_ 8 66 33 [.t 65], a_ 4 62 (l_ 61), e_ 9 67 (.app 45 18 104 (.t 62) (.t 66)), p_ 10 68 (n_ 58), p_ 11 69 (f_ 5 68), e0_ 12 (.st 1 (.t 69) (.t 67))]) .skip))) (.seq (h_ 16 [p_ 0 70 (m_ 0), p_ 1 71 (m_ 0), p_ 2 72 (n_ 71), p_ 3 73 (f_ 7 72), r_ 4 74 (l_ 73), p_ 5 75 (m_ 3), p_ 6 76 (m_ 0), p_ 7 77 (n_ 76), p_ 8 78 (f_ 5 77), r_ 9 79 (l_ 78), p_ 10 80 (k_ 79), p_ 11 81 (.mx false (.t 75) (.t 80)), p_ 12 82 (.mx true (.t 74) (.t 81)), p_ 13 83 (n_ 70), p_ 14 84 (f_ 7 83), e0_ 15 (.st 1 (.t 84) (.t 82))]) (.seq (g_ 1 [p_ 0 8 (.mv (.c (.bool true)))]) .ret))))) [(0, [.up 8]), (1, [.up 8])])
theorem ft_take2_ok : chkF Try.prog 13 ft_take2 = true := by kernel_rfl
structure A_take2 where
  l : List Int
  com : Int
  sh : Prop
  c0 : Int
  c1 : Int
  me : Int
  fr : Int
  h : Value
  v : List Int
  c : Int
structure R_take2 where
  q : Prop
  l : List Int
  com : Int
def po_take2 (p : A_take2) (r : R_take2) : Prop := (r.l = p.l ∧ r.com = p.com) ∨ (0 ≤ p.fr ∧ p.fr ≤ (p.l.length : Int) ∧ (p.v.length : Int) ≤ 400 - p.fr ∧ ((¬ p.sh ∧ ((p.l.length : Int) - p.fr) < (p.v.length : Int) ∧ r.l = p.l ++ p.v.drop ((p.l.length : Int) - p.fr).toNat) ∨ ((p.sh ∨ (p.v.length : Int) ≤ ((p.l.length : Int) - p.fr)) ∧ r.l = p.l)) ∧ r.com = max p.com (min p.c (r.l.length : Int)))
noncomputable def I_take2 (p : A_take2) : IE := ([.ptr 0 0, .sy (.int 0 p.fr), .sy (.imm p.h 18 Int p.v encK), .sy (.int 0 p.c)], (Rm2n p.l p.com p.sh p.c0 p.c1 p.me), 4)
noncomputable def out_take2 (p : A_take2) (K : KE) : Bool := allB fun r : R_take2 => ifB (prB (po_take2 p r)) (K (.sy (.bool r.q)) (Rm2n r.l r.com p.sh p.c0 p.c1 p.me) 4) true
def pre_take2 (p : A_take2) : Prop := 1 ≤ p.me ∧ p.me < 2 ∧ p.l.length ≤ 400 ∧ -1000000000 ≤ p.fr ∧ p.fr ≤ 1000000000
theorem fin_take2 {p : A_take2} {K : KE} (hK : out_take2 p K = true) (r : R_take2) (h : po_take2 p r) : K (.sy (.bool r.q)) (Rm2n r.l r.com p.sh p.c0 p.c1 p.me) 4 = true := ifB_use h (allB_ok hK r)
theorem vf_take2 (p : A_take2) (K : KE) (hpre : pre_take2 p) (hK : out_take2 p K = true) : (funE 1 (cfT nat_since5) noLp 600 ft_take2 (I_take2 p).1 (I_take2 p).2.1 (I_take2 p).2.2 K) = true := by
  refine Eq.trans (b := (let z0 : Bool := (K (.sy (.bool (true = true))) (Rm2n p.l (max p.com (min p.c (p.l.length : Int))) p.sh p.c0 p.c1 p.me) 4); let z1 : Bool := (K (.sy (.bool (false = true))) (Rm2n p.l p.com p.sh p.c0 p.c1 p.me) 4); must (Bool.and (prB (((.int 1 p.me) : SY) = (.int 1 p.me))) (true)) (ifB (prB (p.me = (0 : Int))) z1 (ifB (prB (p.fr < (0 : Int))) z1 (ifB (prB ((p.l.length : Int) < p.fr)) z1 (must (prB (InR 0 ((400 : Int) - p.fr))) (ifB (prB (((400 : Int) - p.fr) < (p.v.length : Int))) z1 (must (prB (InR 0 ((p.l.length : Int) - p.fr))) (ifB (prB (¬ p.sh)) (ifB (prB (((p.l.length : Int) - p.fr) < (p.v.length : Int))) (must (prB (0 ≤ ((p.l.length : Int) - p.fr) ∧ ((p.l.length : Int) - p.fr) ≤ (p.v.length : Int) ∧ (p.v.length : Int) ≤ (p.v.length : Int))) (exB fun p1 : A_clones_imm => must (prB (([.sy (.imm (hsl p.h 18 (((p.l.length : Int) - p.fr).toNat) p.v.length) 18 Int ((p.v.drop (((p.l.length : Int) - p.fr).toNat)).take (p.v.length - (((p.l.length : Int) - p.fr).toNat))) encK)], .leaf, 0) = I_clones_imm p1)) (must (prB (pre_clones_imm p1)) (allB fun r1 : R_clones_imm => ifB (prB (po_clones_imm p1 r1)) (must (prB (((.prow 2 p.l.length) : SY) = (.prow 2 p.l.length))) (must (prB (r1.o.length = r1.o.length)) (must (prB (p.l.length = p.l.length)) (ifB (prB (r1.o = [])) z0 (exB fun m1 : List Int => must (prB (rowsR (m1.map encK) (r1.o.map encK))) (must (prB (limP 104 (p.l.length + m1.length))) (K (.sy (.bool (true = true))) (Rm2 (p.l ++ m1) (max p.com (min p.c ((p.l ++ m1).length : Int))) p.sh p.c0 p.c1 p.me ((p.l ++ m1).length)) 4))))))) true)))) z0) z0))))))))) (by kernel_rfl) ?_
  dsimp only [pre_take2] at hpre
  refine must_mk (by simp [prB]) ?_
  refine ifP (fun hc1 => ?_) (fun hc1 => ?_)
  exact fin_take2 hK ⟨false = true, p.l, p.com⟩ (by dsimp only [po_take2] <;> (first | exact .inl ⟨rfl, rfl⟩ | (exfalso ; omega)))
  refine ifP (fun hc2 => ?_) (fun hc2 => ?_)
  exact fin_take2 hK ⟨false = true, p.l, p.com⟩ (by dsimp only [po_take2] <;> (first | exact .inl ⟨rfl, rfl⟩ | (exfalso ; omega)))
  refine ifP (fun hc3 => ?_) (fun hc3 => ?_)
  exact fin_take2 hK ⟨false = true, p.l, p.com⟩ (by dsimp only [po_take2] <;> (first | exact .inl ⟨rfl, rfl⟩ | (exfalso ; omega)))
  refine mustP (by simp only [InR] ; omega) ?_
  refine ifP (fun hc4 => ?_) (fun hc4 => ?_)
  exact fin_take2 hK ⟨false = true, p.l, p.com⟩ (by dsimp only [po_take2] <;> (first | exact .inl ⟨rfl, rfl⟩ | (exfalso ; omega)))
  refine mustP (by simp only [InR] ; omega) ?_
  refine ifP (fun hc5 => ?_) (fun hc5 => ?_)
  refine ifP (fun hc6 => ?_) (fun hc6 => ?_)
  refine mustP (by (first | omega | (simp [limP] <;> omega))) ?_
  refine callPR (⟨hsl p.h 18 (((p.l.length : Int) - p.fr).toNat) p.v.length, (p.v.drop (((p.l.length : Int) - p.fr).toNat)).take (p.v.length - (((p.l.length : Int) - p.fr).toNat))⟩ : A_clones_imm) rfl (by (try dsimp only [pre_clones_imm]) ; first | omega | (simp only [List.length_take, List.length_drop] ; omega)) fun r1 hi7 => ?_
  dsimp only [po_clones_imm] at hi7
  refine mustP (rfl) ?_
  refine mustP (by (first | omega | (simp [limP] <;> omega))) ?_
  refine mustP (rfl) ?_
  refine ifP (fun hc8 => ?_) (fun hc8 => ?_)
  have hc8l : (r1.o).length = 0 := (by rw [hc8] ; rfl)
  exact fin_take2 hK ⟨true = true, p.l, max p.com (min p.c (p.l.length : Int))⟩ (by dsimp only [po_take2] <;> (first | exact .inr ⟨by omega, by omega, by omega, .inr ⟨.inl (by first | assumption | exact Classical.not_not.1 (by assumption)), rfl⟩, rfl⟩ | exact .inr ⟨by omega, by omega, by omega, .inr ⟨.inr (by omega), rfl⟩, rfl⟩ | (exfalso ; omega) | (exfalso ; have hz := hi7.2 ; simp only [List.length_take, List.length_drop] at hz ; omega)))
  have hc8l : 0 < (r1.o).length := List.length_pos_iff.2 hc8
  refine exB_mk r1.o ?_
  refine mustP (show rowsR (r1.o.map encK) (r1.o.map encK) from rowsR_refl _) ?_
  refine mustP (by (try dsimp only) ; have hz := hi7.2 ; simp only [List.length_take, List.length_drop] at hz ; unfold limP ; omega) ?_
  exact fin_take2 hK ⟨true = true, p.l ++ r1.o, max p.com (min p.c ((p.l ++ r1.o).length : Int))⟩ (by dsimp only [po_take2] <;> (first | (exfalso ; omega) | (exfalso ; have hz := hi7.2 ; simp only [List.length_take, List.length_drop] at hz ; omega) | exact .inr ⟨by omega, by omega, by omega, .inl ⟨by assumption, by omega, congrArg _ (hi7.1.trans (List.take_of_length_le (by simp)))⟩, rfl⟩))
  exact fin_take2 hK ⟨true = true, p.l, max p.com (min p.c (p.l.length : Int))⟩ (by dsimp only [po_take2] <;> (first | exact .inr ⟨by omega, by omega, by omega, .inr ⟨.inl (by first | assumption | exact Classical.not_not.1 (by assumption)), rfl⟩, rfl⟩ | exact .inr ⟨by omega, by omega, by omega, .inr ⟨.inr (by omega), rfl⟩, rfl⟩ | (exfalso ; omega) | (exfalso ; have hz := hi0.2 ; simp only [List.length_take, List.length_drop] at hz ; omega)))
  exact fin_take2 hK ⟨true = true, p.l, max p.com (min p.c (p.l.length : Int))⟩ (by dsimp only [po_take2] <;> (first | exact .inr ⟨by omega, by omega, by omega, .inr ⟨.inl (by first | assumption | exact Classical.not_not.1 (by assumption)), rfl⟩, rfl⟩ | exact .inr ⟨by omega, by omega, by omega, .inr ⟨.inr (by omega), rfl⟩, rfl⟩ | (exfalso ; omega) | (exfalso ; have hz := hi0.2 ; simp only [List.length_take, List.length_drop] at hz ; omega)))
noncomputable def ec_take2 : SpecE := tstE (elB 1 2) (esOf I_take2 (spP pre_take2 out_take2)) (fun _ _ _ _ => false)
theorem nc_take2 : NatE Try.prog 13 1 ec_take2 := tstE_ok (natE_pl (f := 13) (k := 1) (cfT_ok nat_since5_ok) ft_take2_ok (by rfl) (by rfl) vf_take2) natE_no
noncomputable def nat_take2 := natC nat_since5 1 ec_take2 13 [(0, 4), (1, 20), (2, 23), (3, 20)]
theorem nat_take2_ok : NatsOk Try.prog nat_take2 := natC_ok nc_take2 nat_since5_ok
def ft_take3 : XF := ft_take2
theorem ft_take3_ok : chkF Try.prog 13 ft_take3 = true := ft_take2_ok
structure A_take3 where
  l : List Int
  com : Int
  sh : Prop
  c0 : Int
  c1 : Int
  c2 : Int
  me : Int
  fr : Int
  h : Value
  v : List Int
  c : Int
structure R_take3 where
  q : Prop
  l : List Int
  com : Int
def po_take3 (p : A_take3) (r : R_take3) : Prop := (r.l = p.l ∧ r.com = p.com) ∨ (0 ≤ p.fr ∧ p.fr ≤ (p.l.length : Int) ∧ (p.v.length : Int) ≤ 400 - p.fr ∧ ((¬ p.sh ∧ ((p.l.length : Int) - p.fr) < (p.v.length : Int) ∧ r.l = p.l ++ p.v.drop ((p.l.length : Int) - p.fr).toNat) ∨ ((p.sh ∨ (p.v.length : Int) ≤ ((p.l.length : Int) - p.fr)) ∧ r.l = p.l)) ∧ r.com = max p.com (min p.c (r.l.length : Int)))
noncomputable def I_take3 (p : A_take3) : IE := ([.ptr 0 0, .sy (.int 0 p.fr), .sy (.imm p.h 18 Int p.v encK), .sy (.int 0 p.c)], (Rm3n p.l p.com p.sh p.c0 p.c1 p.c2 p.me), 4)
noncomputable def out_take3 (p : A_take3) (K : KE) : Bool := allB fun r : R_take3 => ifB (prB (po_take3 p r)) (K (.sy (.bool r.q)) (Rm3n r.l r.com p.sh p.c0 p.c1 p.c2 p.me) 4) true
def pre_take3 (p : A_take3) : Prop := 1 ≤ p.me ∧ p.me < 3 ∧ p.l.length ≤ 400 ∧ -1000000000 ≤ p.fr ∧ p.fr ≤ 1000000000
theorem fin_take3 {p : A_take3} {K : KE} (hK : out_take3 p K = true) (r : R_take3) (h : po_take3 p r) : K (.sy (.bool r.q)) (Rm3n r.l r.com p.sh p.c0 p.c1 p.c2 p.me) 4 = true := ifB_use h (allB_ok hK r)
theorem vf_take3 (p : A_take3) (K : KE) (hpre : pre_take3 p) (hK : out_take3 p K = true) : (funE 1 (cfT nat_take2) noLp 600 ft_take3 (I_take3 p).1 (I_take3 p).2.1 (I_take3 p).2.2 K) = true := by
  refine Eq.trans (b := (let z0 : Bool := (K (.sy (.bool (true = true))) (Rm3n p.l (max p.com (min p.c (p.l.length : Int))) p.sh p.c0 p.c1 p.c2 p.me) 4); let z1 : Bool := (K (.sy (.bool (false = true))) (Rm3n p.l p.com p.sh p.c0 p.c1 p.c2 p.me) 4); must (Bool.and (prB (((.int 1 p.me) : SY) = (.int 1 p.me))) (true)) (ifB (prB (p.me = (0 : Int))) z1 (ifB (prB (p.fr < (0 : Int))) z1 (ifB (prB ((p.l.length : Int) < p.fr)) z1 (must (prB (InR 0 ((400 : Int) - p.fr))) (ifB (prB (((400 : Int) - p.fr) < (p.v.length : Int))) z1 (must (prB (InR 0 ((p.l.length : Int) - p.fr))) (ifB (prB (¬ p.sh)) (ifB (prB (((p.l.length : Int) - p.fr) < (p.v.length : Int))) (must (prB (0 ≤ ((p.l.length : Int) - p.fr) ∧ ((p.l.length : Int) - p.fr) ≤ (p.v.length : Int) ∧ (p.v.length : Int) ≤ (p.v.length : Int))) (exB fun p1 : A_clones_imm => must (prB (([.sy (.imm (hsl p.h 18 (((p.l.length : Int) - p.fr).toNat) p.v.length) 18 Int ((p.v.drop (((p.l.length : Int) - p.fr).toNat)).take (p.v.length - (((p.l.length : Int) - p.fr).toNat))) encK)], .leaf, 0) = I_clones_imm p1)) (must (prB (pre_clones_imm p1)) (allB fun r1 : R_clones_imm => ifB (prB (po_clones_imm p1 r1)) (must (prB (((.prow 2 p.l.length) : SY) = (.prow 2 p.l.length))) (must (prB (r1.o.length = r1.o.length)) (must (prB (p.l.length = p.l.length)) (ifB (prB (r1.o = [])) z0 (exB fun m1 : List Int => must (prB (rowsR (m1.map encK) (r1.o.map encK))) (must (prB (limP 104 (p.l.length + m1.length))) (K (.sy (.bool (true = true))) (Rm3 (p.l ++ m1) (max p.com (min p.c ((p.l ++ m1).length : Int))) p.sh p.c0 p.c1 p.c2 p.me ((p.l ++ m1).length)) 4))))))) true)))) z0) z0))))))))) (by kernel_rfl) ?_
  dsimp only [pre_take3] at hpre
  refine must_mk (by simp [prB]) ?_
  refine ifP (fun hc1 => ?_) (fun hc1 => ?_)
  exact fin_take3 hK ⟨false = true, p.l, p.com⟩ (by dsimp only [po_take3] <;> (first | exact .inl ⟨rfl, rfl⟩ | (exfalso ; omega)))
  refine ifP (fun hc2 => ?_) (fun hc2 => ?_)
  exact fin_take3 hK ⟨false = true, p.l, p.com⟩ (by dsimp only [po_take3] <;> (first | exact .inl ⟨rfl, rfl⟩ | (exfalso ; omega)))
  refine ifP (fun hc3 => ?_) (fun hc3 => ?_)
  exact fin_take3 hK ⟨false = true, p.l, p.com⟩ (by dsimp only [po_take3] <;> (first | exact .inl ⟨rfl, rfl⟩ | (exfalso ; omega)))
  refine mustP (by simp only [InR] ; omega) ?_
  refine ifP (fun hc4 => ?_) (fun hc4 => ?_)
  exact fin_take3 hK ⟨false = true, p.l, p.com⟩ (by dsimp only [po_take3] <;> (first | exact .inl ⟨rfl, rfl⟩ | (exfalso ; omega)))
  refine mustP (by simp only [InR] ; omega) ?_
  refine ifP (fun hc5 => ?_) (fun hc5 => ?_)
  refine ifP (fun hc6 => ?_) (fun hc6 => ?_)
  refine mustP (by (first | omega | (simp [limP] <;> omega))) ?_
  refine callPR (⟨hsl p.h 18 (((p.l.length : Int) - p.fr).toNat) p.v.length, (p.v.drop (((p.l.length : Int) - p.fr).toNat)).take (p.v.length - (((p.l.length : Int) - p.fr).toNat))⟩ : A_clones_imm) rfl (by (try dsimp only [pre_clones_imm]) ; first | omega | (simp only [List.length_take, List.length_drop] ; omega)) fun r1 hi7 => ?_
  dsimp only [po_clones_imm] at hi7
  refine mustP (rfl) ?_
  refine mustP (by (first | omega | (simp [limP] <;> omega))) ?_
  refine mustP (rfl) ?_
  refine ifP (fun hc8 => ?_) (fun hc8 => ?_)
  have hc8l : (r1.o).length = 0 := (by rw [hc8] ; rfl)
  exact fin_take3 hK ⟨true = true, p.l, max p.com (min p.c (p.l.length : Int))⟩ (by dsimp only [po_take3] <;> (first | exact .inr ⟨by omega, by omega, by omega, .inr ⟨.inl (by first | assumption | exact Classical.not_not.1 (by assumption)), rfl⟩, rfl⟩ | exact .inr ⟨by omega, by omega, by omega, .inr ⟨.inr (by omega), rfl⟩, rfl⟩ | (exfalso ; omega) | (exfalso ; have hz := hi7.2 ; simp only [List.length_take, List.length_drop] at hz ; omega)))
  have hc8l : 0 < (r1.o).length := List.length_pos_iff.2 hc8
  refine exB_mk r1.o ?_
  refine mustP (show rowsR (r1.o.map encK) (r1.o.map encK) from rowsR_refl _) ?_
  refine mustP (by (try dsimp only) ; have hz := hi7.2 ; simp only [List.length_take, List.length_drop] at hz ; unfold limP ; omega) ?_
  exact fin_take3 hK ⟨true = true, p.l ++ r1.o, max p.com (min p.c ((p.l ++ r1.o).length : Int))⟩ (by dsimp only [po_take3] <;> (first | (exfalso ; omega) | (exfalso ; have hz := hi7.2 ; simp only [List.length_take, List.length_drop] at hz ; omega) | exact .inr ⟨by omega, by omega, by omega, .inl ⟨by assumption, by omega, congrArg _ (hi7.1.trans (List.take_of_length_le (by simp)))⟩, rfl⟩))
  exact fin_take3 hK ⟨true = true, p.l, max p.com (min p.c (p.l.length : Int))⟩ (by dsimp only [po_take3] <;> (first | exact .inr ⟨by omega, by omega, by omega, .inr ⟨.inl (by first | assumption | exact Classical.not_not.1 (by assumption)), rfl⟩, rfl⟩ | exact .inr ⟨by omega, by omega, by omega, .inr ⟨.inr (by omega), rfl⟩, rfl⟩ | (exfalso ; omega) | (exfalso ; have hz := hi0.2 ; simp only [List.length_take, List.length_drop] at hz ; omega)))
  exact fin_take3 hK ⟨true = true, p.l, max p.com (min p.c (p.l.length : Int))⟩ (by dsimp only [po_take3] <;> (first | exact .inr ⟨by omega, by omega, by omega, .inr ⟨.inl (by first | assumption | exact Classical.not_not.1 (by assumption)), rfl⟩, rfl⟩ | exact .inr ⟨by omega, by omega, by omega, .inr ⟨.inr (by omega), rfl⟩, rfl⟩ | (exfalso ; omega) | (exfalso ; have hz := hi0.2 ; simp only [List.length_take, List.length_drop] at hz ; omega)))
noncomputable def ec_take3 : SpecE := tstE (elB 1 3) (esOf I_take3 (spP pre_take3 out_take3)) ec_take2
theorem nc_take3 : NatE Try.prog 13 1 ec_take3 := tstE_ok (natE_pl (f := 13) (k := 1) (cfT_ok nat_take2_ok) ft_take3_ok (by rfl) (by rfl) vf_take3) nc_take2
noncomputable def nat_take3 := natC nat_take2 1 ec_take3 13 [(0, 4), (1, 20), (2, 23), (3, 20)]
theorem nat_take3_ok : NatsOk Try.prog nat_take3 := natC_ok nc_take3 nat_take2_ok
def ft_take4 : XF := ft_take2
theorem ft_take4_ok : chkF Try.prog 13 ft_take4 = true := ft_take2_ok
structure A_take4 where
  l : List Int
  com : Int
  sh : Prop
  c0 : Int
  c1 : Int
  c2 : Int
  c3 : Int
  me : Int
  fr : Int
  h : Value
  v : List Int
  c : Int
structure R_take4 where
  q : Prop
  l : List Int
  com : Int
def po_take4 (p : A_take4) (r : R_take4) : Prop := (r.l = p.l ∧ r.com = p.com) ∨ (0 ≤ p.fr ∧ p.fr ≤ (p.l.length : Int) ∧ (p.v.length : Int) ≤ 400 - p.fr ∧ ((¬ p.sh ∧ ((p.l.length : Int) - p.fr) < (p.v.length : Int) ∧ r.l = p.l ++ p.v.drop ((p.l.length : Int) - p.fr).toNat) ∨ ((p.sh ∨ (p.v.length : Int) ≤ ((p.l.length : Int) - p.fr)) ∧ r.l = p.l)) ∧ r.com = max p.com (min p.c (r.l.length : Int)))
noncomputable def I_take4 (p : A_take4) : IE := ([.ptr 0 0, .sy (.int 0 p.fr), .sy (.imm p.h 18 Int p.v encK), .sy (.int 0 p.c)], (Rm4n p.l p.com p.sh p.c0 p.c1 p.c2 p.c3 p.me), 4)
noncomputable def out_take4 (p : A_take4) (K : KE) : Bool := allB fun r : R_take4 => ifB (prB (po_take4 p r)) (K (.sy (.bool r.q)) (Rm4n r.l r.com p.sh p.c0 p.c1 p.c2 p.c3 p.me) 4) true
def pre_take4 (p : A_take4) : Prop := 1 ≤ p.me ∧ p.me < 4 ∧ p.l.length ≤ 400 ∧ -1000000000 ≤ p.fr ∧ p.fr ≤ 1000000000
theorem fin_take4 {p : A_take4} {K : KE} (hK : out_take4 p K = true) (r : R_take4) (h : po_take4 p r) : K (.sy (.bool r.q)) (Rm4n r.l r.com p.sh p.c0 p.c1 p.c2 p.c3 p.me) 4 = true := ifB_use h (allB_ok hK r)
theorem vf_take4 (p : A_take4) (K : KE) (hpre : pre_take4 p) (hK : out_take4 p K = true) : (funE 1 (cfT nat_take3) noLp 600 ft_take4 (I_take4 p).1 (I_take4 p).2.1 (I_take4 p).2.2 K) = true := by
  refine Eq.trans (b := (let z0 : Bool := (K (.sy (.bool (true = true))) (Rm4n p.l (max p.com (min p.c (p.l.length : Int))) p.sh p.c0 p.c1 p.c2 p.c3 p.me) 4); let z1 : Bool := (K (.sy (.bool (false = true))) (Rm4n p.l p.com p.sh p.c0 p.c1 p.c2 p.c3 p.me) 4); must (Bool.and (prB (((.int 1 p.me) : SY) = (.int 1 p.me))) (true)) (ifB (prB (p.me = (0 : Int))) z1 (ifB (prB (p.fr < (0 : Int))) z1 (ifB (prB ((p.l.length : Int) < p.fr)) z1 (must (prB (InR 0 ((400 : Int) - p.fr))) (ifB (prB (((400 : Int) - p.fr) < (p.v.length : Int))) z1 (must (prB (InR 0 ((p.l.length : Int) - p.fr))) (ifB (prB (¬ p.sh)) (ifB (prB (((p.l.length : Int) - p.fr) < (p.v.length : Int))) (must (prB (0 ≤ ((p.l.length : Int) - p.fr) ∧ ((p.l.length : Int) - p.fr) ≤ (p.v.length : Int) ∧ (p.v.length : Int) ≤ (p.v.length : Int))) (exB fun p1 : A_clones_imm => must (prB (([.sy (.imm (hsl p.h 18 (((p.l.length : Int) - p.fr).toNat) p.v.length) 18 Int ((p.v.drop (((p.l.length : Int) - p.fr).toNat)).take (p.v.length - (((p.l.length : Int) - p.fr).toNat))) encK)], .leaf, 0) = I_clones_imm p1)) (must (prB (pre_clones_imm p1)) (allB fun r1 : R_clones_imm => ifB (prB (po_clones_imm p1 r1)) (must (prB (((.prow 2 p.l.length) : SY) = (.prow 2 p.l.length))) (must (prB (r1.o.length = r1.o.length)) (must (prB (p.l.length = p.l.length)) (ifB (prB (r1.o = [])) z0 (exB fun m1 : List Int => must (prB (rowsR (m1.map encK) (r1.o.map encK))) (must (prB (limP 104 (p.l.length + m1.length))) (K (.sy (.bool (true = true))) (Rm4 (p.l ++ m1) (max p.com (min p.c ((p.l ++ m1).length : Int))) p.sh p.c0 p.c1 p.c2 p.c3 p.me ((p.l ++ m1).length)) 4))))))) true)))) z0) z0))))))))) (by kernel_rfl) ?_
  dsimp only [pre_take4] at hpre
  refine must_mk (by simp [prB]) ?_
  refine ifP (fun hc1 => ?_) (fun hc1 => ?_)
  exact fin_take4 hK ⟨false = true, p.l, p.com⟩ (by dsimp only [po_take4] <;> (first | exact .inl ⟨rfl, rfl⟩ | (exfalso ; omega)))
  refine ifP (fun hc2 => ?_) (fun hc2 => ?_)
  exact fin_take4 hK ⟨false = true, p.l, p.com⟩ (by dsimp only [po_take4] <;> (first | exact .inl ⟨rfl, rfl⟩ | (exfalso ; omega)))
  refine ifP (fun hc3 => ?_) (fun hc3 => ?_)
  exact fin_take4 hK ⟨false = true, p.l, p.com⟩ (by dsimp only [po_take4] <;> (first | exact .inl ⟨rfl, rfl⟩ | (exfalso ; omega)))
  refine mustP (by simp only [InR] ; omega) ?_
  refine ifP (fun hc4 => ?_) (fun hc4 => ?_)
  exact fin_take4 hK ⟨false = true, p.l, p.com⟩ (by dsimp only [po_take4] <;> (first | exact .inl ⟨rfl, rfl⟩ | (exfalso ; omega)))
  refine mustP (by simp only [InR] ; omega) ?_
  refine ifP (fun hc5 => ?_) (fun hc5 => ?_)
  refine ifP (fun hc6 => ?_) (fun hc6 => ?_)
  refine mustP (by (first | omega | (simp [limP] <;> omega))) ?_
  refine callPR (⟨hsl p.h 18 (((p.l.length : Int) - p.fr).toNat) p.v.length, (p.v.drop (((p.l.length : Int) - p.fr).toNat)).take (p.v.length - (((p.l.length : Int) - p.fr).toNat))⟩ : A_clones_imm) rfl (by (try dsimp only [pre_clones_imm]) ; first | omega | (simp only [List.length_take, List.length_drop] ; omega)) fun r1 hi7 => ?_
  dsimp only [po_clones_imm] at hi7
  refine mustP (rfl) ?_
  refine mustP (by (first | omega | (simp [limP] <;> omega))) ?_
  refine mustP (rfl) ?_
  refine ifP (fun hc8 => ?_) (fun hc8 => ?_)
  have hc8l : (r1.o).length = 0 := (by rw [hc8] ; rfl)
  exact fin_take4 hK ⟨true = true, p.l, max p.com (min p.c (p.l.length : Int))⟩ (by dsimp only [po_take4] <;> (first | exact .inr ⟨by omega, by omega, by omega, .inr ⟨.inl (by first | assumption | exact Classical.not_not.1 (by assumption)), rfl⟩, rfl⟩ | exact .inr ⟨by omega, by omega, by omega, .inr ⟨.inr (by omega), rfl⟩, rfl⟩ | (exfalso ; omega) | (exfalso ; have hz := hi7.2 ; simp only [List.length_take, List.length_drop] at hz ; omega)))
  have hc8l : 0 < (r1.o).length := List.length_pos_iff.2 hc8
  refine exB_mk r1.o ?_
  refine mustP (show rowsR (r1.o.map encK) (r1.o.map encK) from rowsR_refl _) ?_
  refine mustP (by (try dsimp only) ; have hz := hi7.2 ; simp only [List.length_take, List.length_drop] at hz ; unfold limP ; omega) ?_
  exact fin_take4 hK ⟨true = true, p.l ++ r1.o, max p.com (min p.c ((p.l ++ r1.o).length : Int))⟩ (by dsimp only [po_take4] <;> (first | (exfalso ; omega) | (exfalso ; have hz := hi7.2 ; simp only [List.length_take, List.length_drop] at hz ; omega) | exact .inr ⟨by omega, by omega, by omega, .inl ⟨by assumption, by omega, congrArg _ (hi7.1.trans (List.take_of_length_le (by simp)))⟩, rfl⟩))
  exact fin_take4 hK ⟨true = true, p.l, max p.com (min p.c (p.l.length : Int))⟩ (by dsimp only [po_take4] <;> (first | exact .inr ⟨by omega, by omega, by omega, .inr ⟨.inl (by first | assumption | exact Classical.not_not.1 (by assumption)), rfl⟩, rfl⟩ | exact .inr ⟨by omega, by omega, by omega, .inr ⟨.inr (by omega), rfl⟩, rfl⟩ | (exfalso ; omega) | (exfalso ; have hz := hi0.2 ; simp only [List.length_take, List.length_drop] at hz ; omega)))
  exact fin_take4 hK ⟨true = true, p.l, max p.com (min p.c (p.l.length : Int))⟩ (by dsimp only [po_take4] <;> (first | exact .inr ⟨by omega, by omega, by omega, .inr ⟨.inl (by first | assumption | exact Classical.not_not.1 (by assumption)), rfl⟩, rfl⟩ | exact .inr ⟨by omega, by omega, by omega, .inr ⟨.inr (by omega), rfl⟩, rfl⟩ | (exfalso ; omega) | (exfalso ; have hz := hi0.2 ; simp only [List.length_take, List.length_drop] at hz ; omega)))
noncomputable def ec_take4 : SpecE := tstE (elB 1 4) (esOf I_take4 (spP pre_take4 out_take4)) ec_take3
theorem nc_take4 : NatE Try.prog 13 1 ec_take4 := tstE_ok (natE_pl (f := 13) (k := 1) (cfT_ok nat_take3_ok) ft_take4_ok (by rfl) (by rfl) vf_take4) nc_take3
noncomputable def nat_take4 := natC nat_take3 1 ec_take4 13 [(0, 4), (1, 20), (2, 23), (3, 20)]
theorem nat_take4_ok : NatsOk Try.prog nat_take4 := natC_ok nc_take4 nat_take3_ok
def ft_take5 : XF := ft_take2
theorem ft_take5_ok : chkF Try.prog 13 ft_take5 = true := ft_take2_ok
structure A_take5 where
  l : List Int
  com : Int
  sh : Prop
  c0 : Int
  c1 : Int
  c2 : Int
  c3 : Int
  c4 : Int
  me : Int
  fr : Int
  h : Value
  v : List Int
  c : Int
structure R_take5 where
  q : Prop
  l : List Int
  com : Int
def po_take5 (p : A_take5) (r : R_take5) : Prop := (r.l = p.l ∧ r.com = p.com) ∨ (0 ≤ p.fr ∧ p.fr ≤ (p.l.length : Int) ∧ (p.v.length : Int) ≤ 400 - p.fr ∧ ((¬ p.sh ∧ ((p.l.length : Int) - p.fr) < (p.v.length : Int) ∧ r.l = p.l ++ p.v.drop ((p.l.length : Int) - p.fr).toNat) ∨ ((p.sh ∨ (p.v.length : Int) ≤ ((p.l.length : Int) - p.fr)) ∧ r.l = p.l)) ∧ r.com = max p.com (min p.c (r.l.length : Int)))
noncomputable def I_take5 (p : A_take5) : IE := ([.ptr 0 0, .sy (.int 0 p.fr), .sy (.imm p.h 18 Int p.v encK), .sy (.int 0 p.c)], (Rm5n p.l p.com p.sh p.c0 p.c1 p.c2 p.c3 p.c4 p.me), 4)
noncomputable def out_take5 (p : A_take5) (K : KE) : Bool := allB fun r : R_take5 => ifB (prB (po_take5 p r)) (K (.sy (.bool r.q)) (Rm5n r.l r.com p.sh p.c0 p.c1 p.c2 p.c3 p.c4 p.me) 4) true
def pre_take5 (p : A_take5) : Prop := 1 ≤ p.me ∧ p.me < 5 ∧ p.l.length ≤ 400 ∧ -1000000000 ≤ p.fr ∧ p.fr ≤ 1000000000
theorem fin_take5 {p : A_take5} {K : KE} (hK : out_take5 p K = true) (r : R_take5) (h : po_take5 p r) : K (.sy (.bool r.q)) (Rm5n r.l r.com p.sh p.c0 p.c1 p.c2 p.c3 p.c4 p.me) 4 = true := ifB_use h (allB_ok hK r)
theorem vf_take5 (p : A_take5) (K : KE) (hpre : pre_take5 p) (hK : out_take5 p K = true) : (funE 1 (cfT nat_take4) noLp 600 ft_take5 (I_take5 p).1 (I_take5 p).2.1 (I_take5 p).2.2 K) = true := by
  refine Eq.trans (b := (let z0 : Bool := (K (.sy (.bool (true = true))) (Rm5n p.l (max p.com (min p.c (p.l.length : Int))) p.sh p.c0 p.c1 p.c2 p.c3 p.c4 p.me) 4); let z1 : Bool := (K (.sy (.bool (false = true))) (Rm5n p.l p.com p.sh p.c0 p.c1 p.c2 p.c3 p.c4 p.me) 4); must (Bool.and (prB (((.int 1 p.me) : SY) = (.int 1 p.me))) (true)) (ifB (prB (p.me = (0 : Int))) z1 (ifB (prB (p.fr < (0 : Int))) z1 (ifB (prB ((p.l.length : Int) < p.fr)) z1 (must (prB (InR 0 ((400 : Int) - p.fr))) (ifB (prB (((400 : Int) - p.fr) < (p.v.length : Int))) z1 (must (prB (InR 0 ((p.l.length : Int) - p.fr))) (ifB (prB (¬ p.sh)) (ifB (prB (((p.l.length : Int) - p.fr) < (p.v.length : Int))) (must (prB (0 ≤ ((p.l.length : Int) - p.fr) ∧ ((p.l.length : Int) - p.fr) ≤ (p.v.length : Int) ∧ (p.v.length : Int) ≤ (p.v.length : Int))) (exB fun p1 : A_clones_imm => must (prB (([.sy (.imm (hsl p.h 18 (((p.l.length : Int) - p.fr).toNat) p.v.length) 18 Int ((p.v.drop (((p.l.length : Int) - p.fr).toNat)).take (p.v.length - (((p.l.length : Int) - p.fr).toNat))) encK)], .leaf, 0) = I_clones_imm p1)) (must (prB (pre_clones_imm p1)) (allB fun r1 : R_clones_imm => ifB (prB (po_clones_imm p1 r1)) (must (prB (((.prow 2 p.l.length) : SY) = (.prow 2 p.l.length))) (must (prB (r1.o.length = r1.o.length)) (must (prB (p.l.length = p.l.length)) (ifB (prB (r1.o = [])) z0 (exB fun m1 : List Int => must (prB (rowsR (m1.map encK) (r1.o.map encK))) (must (prB (limP 104 (p.l.length + m1.length))) (K (.sy (.bool (true = true))) (Rm5 (p.l ++ m1) (max p.com (min p.c ((p.l ++ m1).length : Int))) p.sh p.c0 p.c1 p.c2 p.c3 p.c4 p.me ((p.l ++ m1).length)) 4))))))) true)))) z0) z0))))))))) (by kernel_rfl) ?_
  dsimp only [pre_take5] at hpre
  refine must_mk (by simp [prB]) ?_
  refine ifP (fun hc1 => ?_) (fun hc1 => ?_)
  exact fin_take5 hK ⟨false = true, p.l, p.com⟩ (by dsimp only [po_take5] <;> (first | exact .inl ⟨rfl, rfl⟩ | (exfalso ; omega)))
  refine ifP (fun hc2 => ?_) (fun hc2 => ?_)
  exact fin_take5 hK ⟨false = true, p.l, p.com⟩ (by dsimp only [po_take5] <;> (first | exact .inl ⟨rfl, rfl⟩ | (exfalso ; omega)))
  refine ifP (fun hc3 => ?_) (fun hc3 => ?_)
  exact fin_take5 hK ⟨false = true, p.l, p.com⟩ (by dsimp only [po_take5] <;> (first | exact .inl ⟨rfl, rfl⟩ | (exfalso ; omega)))
  refine mustP (by simp only [InR] ; omega) ?_
  refine ifP (fun hc4 => ?_) (fun hc4 => ?_)
  exact fin_take5 hK ⟨false = true, p.l, p.com⟩ (by dsimp only [po_take5] <;> (first | exact .inl ⟨rfl, rfl⟩ | (exfalso ; omega)))
  refine mustP (by simp only [InR] ; omega) ?_
  refine ifP (fun hc5 => ?_) (fun hc5 => ?_)
  refine ifP (fun hc6 => ?_) (fun hc6 => ?_)
  refine mustP (by (first | omega | (simp [limP] <;> omega))) ?_
  refine callPR (⟨hsl p.h 18 (((p.l.length : Int) - p.fr).toNat) p.v.length, (p.v.drop (((p.l.length : Int) - p.fr).toNat)).take (p.v.length - (((p.l.length : Int) - p.fr).toNat))⟩ : A_clones_imm) rfl (by (try dsimp only [pre_clones_imm]) ; first | omega | (simp only [List.length_take, List.length_drop] ; omega)) fun r1 hi7 => ?_
  dsimp only [po_clones_imm] at hi7
  refine mustP (rfl) ?_
  refine mustP (by (first | omega | (simp [limP] <;> omega))) ?_
  refine mustP (rfl) ?_
  refine ifP (fun hc8 => ?_) (fun hc8 => ?_)
  have hc8l : (r1.o).length = 0 := (by rw [hc8] ; rfl)
  exact fin_take5 hK ⟨true = true, p.l, max p.com (min p.c (p.l.length : Int))⟩ (by dsimp only [po_take5] <;> (first | exact .inr ⟨by omega, by omega, by omega, .inr ⟨.inl (by first | assumption | exact Classical.not_not.1 (by assumption)), rfl⟩, rfl⟩ | exact .inr ⟨by omega, by omega, by omega, .inr ⟨.inr (by omega), rfl⟩, rfl⟩ | (exfalso ; omega) | (exfalso ; have hz := hi7.2 ; simp only [List.length_take, List.length_drop] at hz ; omega)))
  have hc8l : 0 < (r1.o).length := List.length_pos_iff.2 hc8
  refine exB_mk r1.o ?_
  refine mustP (show rowsR (r1.o.map encK) (r1.o.map encK) from rowsR_refl _) ?_
  refine mustP (by (try dsimp only) ; have hz := hi7.2 ; simp only [List.length_take, List.length_drop] at hz ; unfold limP ; omega) ?_
  exact fin_take5 hK ⟨true = true, p.l ++ r1.o, max p.com (min p.c ((p.l ++ r1.o).length : Int))⟩ (by dsimp only [po_take5] <;> (first | (exfalso ; omega) | (exfalso ; have hz := hi7.2 ; simp only [List.length_take, List.length_drop] at hz ; omega) | exact .inr ⟨by omega, by omega, by omega, .inl ⟨by assumption, by omega, congrArg _ (hi7.1.trans (List.take_of_length_le (by simp)))⟩, rfl⟩))
  exact fin_take5 hK ⟨true = true, p.l, max p.com (min p.c (p.l.length : Int))⟩ (by dsimp only [po_take5] <;> (first | exact .inr ⟨by omega, by omega, by omega, .inr ⟨.inl (by first | assumption | exact Classical.not_not.1 (by assumption)), rfl⟩, rfl⟩ | exact .inr ⟨by omega, by omega, by omega, .inr ⟨.inr (by omega), rfl⟩, rfl⟩ | (exfalso ; omega) | (exfalso ; have hz := hi0.2 ; simp only [List.length_take, List.length_drop] at hz ; omega)))
  exact fin_take5 hK ⟨true = true, p.l, max p.com (min p.c (p.l.length : Int))⟩ (by dsimp only [po_take5] <;> (first | exact .inr ⟨by omega, by omega, by omega, .inr ⟨.inl (by first | assumption | exact Classical.not_not.1 (by assumption)), rfl⟩, rfl⟩ | exact .inr ⟨by omega, by omega, by omega, .inr ⟨.inr (by omega), rfl⟩, rfl⟩ | (exfalso ; omega) | (exfalso ; have hz := hi0.2 ; simp only [List.length_take, List.length_drop] at hz ; omega)))
noncomputable def ec_take5 : SpecE := tstE (elB 1 5) (esOf I_take5 (spP pre_take5 out_take5)) ec_take4
theorem nc_take5 : NatE Try.prog 13 1 ec_take5 := tstE_ok (natE_pl (f := 13) (k := 1) (cfT_ok nat_take4_ok) ft_take5_ok (by rfl) (by rfl) vf_take5) nc_take4
noncomputable def nat_take5 := natC nat_take4 1 ec_take5 13 [(0, 4), (1, 20), (2, 23), (3, 20)]
theorem nat_take5_ok : NatsOk Try.prog nat_take5 := natC_ok nc_take5 nat_take4_ok
end Go.Proofs.Try

namespace Go.Proofs.Try
open Go Go.RowKit Go.Sy
open Go.Eng hiding allB
set_option maxRecDepth 1000000
set_option linter.unusedVariables false
set_option maxHeartbeats 4000000
def ft_same : XF := .mk 52 (.one 4) (.aft (.seq (g_ 3 [e_ 0 2 (.box 45 (.t 0)), e_ 1 3 (.box 45 (.t 1)), p_ 2 4 (.mv (.c (.bool false)))]) (.seq (g_ 48 [p_ 0 5 (f_ 0 2), r_ 1 6 (l_ 5), p_ 2 7 (f_ 0 3), r_ 3 8 (l_ 7), p_ 4 9 (.bin 3 4 (.t 6) (.t 8)), p_ 5 10 (m_ 9), pg_ 6 11 10 true (f_ 1 2), rg_ 7 12 10 true (.ld true 10 (.t 11)), pg_ 8 13 10 true (f_ 1 3), rg_ 9 14 10 true (.ld true 10 (.t 13)), pg_ 10 15 10 true (.eqs false 4 (.st [(0, 2, true, .st [(0, 1, false, .int), (1, 1, false, .int)]), (2, 1, false, .int), (3, 1, false, .int), (4, 6, true, .ar [0, 2, 4] 2 true (.st [(0, 1, false, .int), (1, 1, false, .int)]))]) (.t 12) (.t 14)), p_ 11 16 (.pick (.t 10) (.t 15) (.c (.bool false))), p_ 12 17 (m_ 16), pg_ 13 18 17 true (f_ 11 2), rg_ 14 19 17 true (l_ 18), pg_ 15 20 17 true (f_ 11 3), rg_ 16 21 17 true (l_ 20), pg_ 17 22 17 true (.bin 3 4 (.t 19) (.t 21)), p_ 18 23 (.pick (.t 17) (.t 22) (.c (.bool false))), p_ 19 24 (m_ 23), pg_ 20 25 24 true (f_ 12 2), rg_ 21 26 24 true (l_ 25), pg_ 22 27 24 true (f_ 12 3), rg_ 23 28 24 true (l_ 27), cg_ 24 29 24 true 67 [.t 26, .t 28], p_ 25 30 (.pick (.t 24) (.t 29) (.c (.bool false))), p_ 26 31 (m_ 30), pg_ 27 32 31 true (f_ 13 2), rg_ 28 33 31 true (.ld true 2 (.t 32)), pg_ 29 34 31 true (f_ 13 3), rg_ 30 35 31 true (.ld true 2 (.t 34)), pg_ 31 36 31 true (.eqs false 2 (.st [(0, 1, false, .int), (1, 1, false, .str)]) (.t 33) (.t 35)), p_ 32 37 (.pick (.t 31) (.t 36) (.c (.bool false))), p_ 33 38 (m_ 37), pg_ 34 39 38 true (f_ 15 2), rg_ 35 40 38 true (l_ 39), pg_ 36 41 38 true (f_ 15 3), rg_ 37 42 38 true (l_ 41), cg_ 38 43 38 true 68 [.t 40, .t 42], p_ 39 44 (.pick (.t 38) (.t 43) (.c (.bool false))), p_ 40 45 (m_ 44), pg_ 41 46 45 true (f_ 16 2), rg_ 42 47 45 true (.ld true 2 (.t 46)), pg_ 43 48 45 true (f_ 16 3), rg_ 44 49 45 true (.ld true 2 (.t 48)), pg_ 45 50 45 true (.eqs false 2 (.st [(0, 1, false, .int), (1, 1, false, .int)]) (.t 47) (.t 49)), p_ 46 51 (.pick (.t 45) (.t 50) (.c (.bool false))), p_ 47 4 (m_ 51)]) .ret)) [(0, [.up 4]), (1, [.up 4])])
theorem ft_same_ok : chkF Try.prog 62 ft_same = true := by kernel_rfl
structure A_same where
  x : Int
  y : Int
structure R_same where
  q : Prop
def po_same (p : A_same) (r : R_same) : Prop := r.q ↔ p.x = p.y
noncomputable def I_same (p : A_same) : IE := ([.agg [.int 1 (.ofNat 2), .int 1 (.ofNat 0), .int 2 (.ofNat 0), .int 3 (.ofNat 0), .int 1 (.ofNat 0), .int 1 (.ofNat 0), .int 1 (.ofNat 0), .int 1 (.ofNat 0), .int 1 (.ofNat 0), .int 1 (.ofNat 0), .int 1 (.ofNat 0), .int 3 (.ofNat 0), .nilS, .int 1 (.ofNat 0), .str [], .nilS, .sy (.int 1 p.x), .int 2 (.ofNat 1)], .agg [.int 1 (.ofNat 2), .int 1 (.ofNat 0), .int 2 (.ofNat 0), .int 3 (.ofNat 0), .int 1 (.ofNat 0), .int 1 (.ofNat 0), .int 1 (.ofNat 0), .int 1 (.ofNat 0), .int 1 (.ofNat 0), .int 1 (.ofNat 0), .int 1 (.ofNat 0), .int 3 (.ofNat 0), .nilS, .int 1 (.ofNat 0), .str [], .nilS, .sy (.int 1 p.y), .int 2 (.ofNat 1)]], .leaf, 0)
noncomputable def out_same (p : A_same) (K : KE) : Bool := allB fun r : R_same => ifB (prB (po_same p r)) (K (.sy (.bool r.q)) .leaf 0) true
theorem fin_same {p : A_same} {K : KE} (hK : out_same p K = true) (r : R_same) (h : po_same p r) : K (.sy (.bool r.q)) .leaf 0 = true := ifB_use h (allB_ok hK r)
theorem vf_same (p : A_same) (K : KE) (hK : out_same p K = true) : (funE 0 (cfT nat_take5) noLp 600 ft_same (I_same p).1 (I_same p).2.1 (I_same p).2.2 K) = true := by
  refine Eq.trans (b := (ifB (prB (p.x = p.y)) (K (.sy (.bool (true = true))) .leaf 0) (K (.sy (.bool (false = true))) .leaf 0))) (by kernel_rfl) ?_
  refine ifP (fun hc1 => ?_) (fun hc1 => ?_)
  exact fin_same hK ⟨true = true⟩ (by dsimp only [po_same] <;> (first | (simp ; done) | (simp ; omega) | simp_all))
  exact fin_same hK ⟨false = true⟩ (by dsimp only [po_same] <;> (first | (simp ; done) | (simp ; omega) | simp_all))
noncomputable def nat_same := natC nat_take5 0 (esOf I_same out_same) 62 [(0, 15), (1, 15)]
theorem nat_same_ok : NatsOk Try.prog nat_same := natC_ok (natE_pn (f := 62) (k := 0) (cfT_ok nat_take5_ok) ft_same_ok (by rfl) (by rfl) vf_same) nat_take5_ok
def ft_eqf : XF := .mk 32 (.one 6) (.aft (.seq (g_ 1 [p_ 0 6 (.mv (.c (.bool false)))]) (.seq (.seq (g_ 5 [p_ 0 10 (m_ 0), p_ 1 11 (k_ 10), p_ 2 12 (m_ 1), p_ 3 13 (k_ 12), p_ 4 14 (.bin 3 5 (.t 11) (.t 13))]) (.cond (.t 14) (.seq (g_ 1 [p_ 0 6 (.mv (.c (.bool false)))]) .ret) .skip)) (.seq (.seq (g_ 3 [p_ 0 15 (m_ 0), p_ 1 16 (k_ 15), p_ 2 17 (.mv (i_ 0))]) (.block 2 (.pre [.can 0 [1, 2, 15, 16, 17], .up 17, .can 0 [1, 2, 15, 16, 17]] (.inv 0 (.aft (.seq (g_ 1 [p_ 0 18 (.bin 3 0 (.t 17) (.t 16))]) (.seq (.cond (.t 18) .skip (.exit 2)) (.seq (.block 3 (.seq (g_ 6 [p_ 0 19 (m_ 17), p_ 1 20 (.ixs 18 (.t 15) (.t 17)), r_ 2 21 (.ld true 18 (.t 20)), e_ 3 8 (.al 45 [.int 1 (.ofNat 0), .int 1 (.ofNat 0), .int 2 (.ofNat 0), .int 3 (.ofNat 0), .int 1 (.ofNat 0), .int 1 (.ofNat 0), .int 1 (.ofNat 0), .int 1 (.ofNat 0), .int 1 (.ofNat 0), .int 1 (.ofNat 0), .int 1 (.ofNat 0), .int 3 (.ofNat 0), .nilS, .int 1 (.ofNat 0), .str [], .nilS, .int 1 (.ofNat 0), .int 2 (.ofNat 0)]), p_ 4 7 (m_ 19), e0_ 5 (.st 18 (.t 8) (.t 21))]) (.seq (g_ 6 [p_ 0 22 (m_ 1), p_ 1 23 (m_ 7), p_ 2 24 (.ixs 18 (.t 22) (.t 23)), r_ 3 25 (.ld true 18 (.t 24)), e_ 4 9 (.al 45 [.int 1 (.ofNat 0), .int 1 (.ofNat 0), .int 2 (.ofNat 0), .int 3 (.ofNat 0), .int 1 (.ofNat 0), .int 1 (.ofNat 0), .int 1 (.ofNat 0), .int 1 (.ofNat 0), .int 1 (.ofNat 0), .int 1 (.ofNat 0), .int 1 (.ofNat 0), .int 3 (.ofNat 0), .nilS, .int 1 (.ofNat 0), .str [], .nilS, .int 1 (.ofNat 0), .int 2 (.ofNat 0)]), e0_ 5 (.st 18 (.t 9) (.t 25))]) (.seq (g_ 5 [p_ 0 26 (m_ 2), r_ 1 27 (.ld true 18 (.t 8)), r_ 2 28 (.ld true 18 (.t 9)), .k 3 (some 29) none 26 62 [.t 27, .t 28], p_ 4 30 (.un 0 (.t 29))]) (.cond (.t 30) (.seq (g_ 1 [p_ 0 6 (.mv (.c (.bool false)))]) .ret) .skip))))) (g_ 2 [p_ 0 31 (.bin 0 0 (.t 17) (i_ 1)), p_ 1 17 (m_ 31)])))) [(0, [.can 0 [1, 2, 15, 16, 17]]), (1, [.can 0 [6]]), (2, [.can 0 []])]))))) (.seq (g_ 1 [p_ 0 6 (.mv (.c (.bool true)))]) .ret)))) [(0, [.up 6]), (1, [.up 6])])
theorem ft_eqf_ok : chkF Try.prog 61 ft_eqf = true := by kernel_rfl
structure A_l_eqf where
  h1 : Value
  l1 : List Int
  h2 : Value
  l2 : List Int
  i : Int
def po_l_eqf (p : A_l_eqf) : Prop := p.l1 = p.l2
def po_l_eqf1 (p : A_l_eqf) : Prop := ¬ p.l1 = p.l2
noncomputable def I_l_eqf (p : A_l_eqf) : IL := ((.cons 17 (.sy (.int 0 p.i)) (.cons 16 (.sy (.int 0 (p.l1.length : Int))) (.cons 15 (.sy (.imm p.h1 18 Int p.l1 encK)) (.cons 2 (.fn 62 []) (.cons 1 (.sy (.imm p.h2 18 Int p.l2 encK)) .nil))))), .leaf, 0)
noncomputable def out_l_eqf (p : A_l_eqf) (K : KC) : Bool := must (ifB (prB (po_l_eqf p)) (K 2 .nil .leaf 0) true) (ifB (prB (po_l_eqf1 p)) (K 1 (.cons 6 (.bool false) .nil) .leaf 0) true)
def pre_l_eqf (p : A_l_eqf) : Prop := p.l1.length = p.l2.length ∧ 0 ≤ p.i ∧ p.i ≤ (p.l1.length : Int) ∧ p.l1.length ≤ 1000000 ∧ p.l1.take p.i.toNat = p.l2.take p.i.toNat
noncomputable def sp_l_eqf (p : A_l_eqf) (K : KC) : Bool := must (prB (pre_l_eqf p)) (out_l_eqf p K)
noncomputable def lp_eqf : LpF := fun j S M nx K => (Bool.rec (false) (exB fun p : A_l_eqf => must (prB ((S, M, nx) = I_l_eqf p)) (sp_l_eqf p K)) (Nat.beq j 0))
def mu_l_eqf (p : A_l_eqf) : Nat := ((p.l1.length : Int) - p.i).toNat
theorem bk_l_eqf {p q : A_l_eqf} {K : KC} {s : IL} (hm : mu_l_eqf q < mu_l_eqf p) (hp : pre_l_eqf q) (hK : out_l_eqf q K = true) (e : s = I_l_eqf q) : (exB fun q => must (prB (s = I_l_eqf q ∧ mu_l_eqf q < mu_l_eqf p)) (sp_l_eqf q K)) = true := exB_mk q (mustP ⟨e, hm⟩ (mustP hp hK))
def bd_l_eqf : XC := (.aft (.seq (g_ 1 [p_ 0 18 (.bin 3 0 (.t 17) (.t 16))]) (.seq (.cond (.t 18) .skip (.exit 2)) (.seq (.block 3 (.seq (g_ 6 [p_ 0 19 (m_ 17), p_ 1 20 (.ixs 18 (.t 15) (.t 17)), r_ 2 21 (.ld true 18 (.t 20)), e_ 3 8 (.al 45 [.int 1 (.ofNat 0), .int 1 (.ofNat 0), .int 2 (.ofNat 0), .int 3 (.ofNat 0), .int 1 (.ofNat 0), .int 1 (.ofNat 0), .int 1 (.ofNat 0), .int 1 (.ofNat 0), .int 1 (.ofNat 0), .int 1 (.ofNat 0), .int 1 (.ofNat 0), .int 3 (.ofNat 0), .nilS, .int 1 (.ofNat 0), .str [], .nilS, .int 1 (.ofNat 0), .int 2 (.ofNat 0)]), p_ 4 7 (m_ 19), e0_ 5 (.st 18 (.t 8) (.t 21))]) (.seq (g_ 6 [p_ 0 22 (m_ 1), p_ 1 23 (m_ 7), p_ 2 24 (.ixs 18 (.t 22) (.t 23)), r_ 3 25 (.ld true 18 (.t 24)), e_ 4 9 (.al 45 [.int 1 (.ofNat 0), .int 1 (.ofNat 0), .int 2 (.ofNat 0), .int 3 (.ofNat 0), .int 1 (.ofNat 0), .int 1 (.ofNat 0), .int 1 (.ofNat 0), .int 1 (.ofNat 0), .int 1 (.ofNat 0), .int 1 (.ofNat 0), .int 1 (.ofNat 0), .int 3 (.ofNat 0), .nilS, .int 1 (.ofNat 0), .str [], .nilS, .int 1 (.ofNat 0), .int 2 (.ofNat 0)]), e0_ 5 (.st 18 (.t 9) (.t 25))]) (.seq (g_ 5 [p_ 0 26 (m_ 2), r_ 1 27 (.ld true 18 (.t 8)), r_ 2 28 (.ld true 18 (.t 9)), .k 3 (some 29) none 26 62 [.t 27, .t 28], p_ 4 30 (.un 0 (.t 29))]) (.cond (.t 30) (.seq (g_ 1 [p_ 0 6 (.mv (.c (.bool false)))]) .ret) .skip))))) (g_ 2 [p_ 0 31 (.bin 0 0 (.t 17) (i_ 1)), p_ 1 17 (m_ 31)])))) [(0, [.can 0 [1, 2, 15, 16, 17]]), (1, [.can 0 [6]]), (2, [.can 0 []])])
theorem vb_l_eqf (p : A_l_eqf) (K : KC) (hpre : pre_l_eqf p) (hK : out_l_eqf p K = true) : (codeX (cfT nat_same) lp_eqf 600 bd_l_eqf (I_l_eqf p).1 (I_l_eqf p).2.1 (I_l_eqf p).2.2 (fun e S M nx => Nat.casesOn e (exB fun q : A_l_eqf => must (prB ((S, M, nx) = I_l_eqf q ∧ mu_l_eqf q < mu_l_eqf p)) (sp_l_eqf q K)) (fun e2 => K (Nat.succ e2) S M nx))) = true := by
  refine Eq.trans (b := (ifB (prB (p.i < (p.l1.length : Int))) (must (prB (0 ≤ p.i ∧ p.i < (p.l1.length : Int))) (allB fun x1 : Int => ifB (prB (p.l1[p.i.toNat]? = some x1)) (must (prB (0 ≤ p.i ∧ p.i < (p.l2.length : Int))) (allB fun x2 : Int => ifB (prB (p.l2[p.i.toNat]? = some x2)) (exB fun p1 : A_same => must (prB (([.agg [.int 1 (.ofNat 2), .int 1 (.ofNat 0), .int 2 (.ofNat 0), .int 3 (.ofNat 0), .int 1 (.ofNat 0), .int 1 (.ofNat 0), .int 1 (.ofNat 0), .int 1 (.ofNat 0), .int 1 (.ofNat 0), .int 1 (.ofNat 0), .int 1 (.ofNat 0), .int 3 (.ofNat 0), .nilS, .int 1 (.ofNat 0), .str [], .nilS, .sy (.int 1 x1), .int 2 (.ofNat 1)], .agg [.int 1 (.ofNat 2), .int 1 (.ofNat 0), .int 2 (.ofNat 0), .int 3 (.ofNat 0), .int 1 (.ofNat 0), .int 1 (.ofNat 0), .int 1 (.ofNat 0), .int 1 (.ofNat 0), .int 1 (.ofNat 0), .int 1 (.ofNat 0), .int 1 (.ofNat 0), .int 3 (.ofNat 0), .nilS, .int 1 (.ofNat 0), .str [], .nilS, .sy (.int 1 x2), .int 2 (.ofNat 1)]], .leaf, 0) = I_same p1)) (allB fun r1 : R_same => ifB (prB (po_same p1 r1)) (ifB (prB (¬ r1.q)) (K 1 (.cons 6 (.bool false) .nil) .leaf 0) (must (prB (InR 0 (p.i + (1 : Int)))) (exB fun q1 : A_l_eqf => must (prB (((.cons 17 (.sy (.int 0 (p.i + (1 : Int)))) (.cons 16 (.sy (.int 0 (p.l1.length : Int))) (.cons 15 (.sy (.imm p.h1 18 Int p.l1 encK)) (.cons 2 (.fn 62 []) (.cons 1 (.sy (.imm p.h2 18 Int p.l2 encK)) .nil))))), .leaf, 0) = I_l_eqf q1 ∧ mu_l_eqf q1 < mu_l_eqf p)) (sp_l_eqf q1 K)))) true)) true)) true)) (K 2 .nil .leaf 0))) (by kernel_rfl) ?_
  obtain ⟨hK0, hKr0⟩ := must_ok hK
  have hK1 := hKr0
  dsimp only [pre_l_eqf] at hpre
  obtain ⟨g0, g1, g2, g3, g4⟩ := hpre
  refine ifP (fun hc1 => ?_) (fun hc1 => ?_)
  refine mustP (by first | omega | (constructor <;> omega)) ?_
  refine allB_mk (fun x1 => ?_)
  refine ifP (fun hi2 => ?_) (fun _ => rfl)
  refine mustP (by first | omega | (constructor <;> omega)) ?_
  refine allB_mk (fun x2 => ?_)
  refine ifP (fun hi3 => ?_) (fun _ => rfl)
  refine callR (⟨x1, x2⟩ : A_same) rfl fun r1 hi4 => ?_
  dsimp only [po_same] at hi4
  refine ifP (fun hc5 => ?_) (fun hc5 => ?_)
  exact ifB_use (show ¬ p.l1 = p.l2 from (by intro e ; rw [e] at hi2 ; exact hc5 (hi4.2 (Option.some.inj (hi2.symm.trans hi3))))) hK1
  refine mustP (by simp only [InR] ; omega) ?_
  exact bk_l_eqf (q := ⟨p.h1, p.l1, p.h2, p.l2, p.i + (1 : Int)⟩) (by dsimp only [mu_l_eqf] ; omega) (by dsimp only [pre_l_eqf] ; refine ⟨g0, by omega, by omega, g3, ?_⟩ ; rw [show (p.i + 1).toNat = p.i.toNat + 1 by omega, ← tk (i := p.i.toNat) (by assumption : p.l1[p.i.toNat]? = some _), ← tk (i := p.i.toNat) (by assumption : p.l2[p.i.toNat]? = some _), g4, hi4.1 (Classical.not_not.1 hc5)]) hK rfl
  exact ifB_use (show p.l1 = p.l2 from (by have e := g4 ; rw [List.take_of_length_le (by omega), List.take_of_length_le (by omega)] at e ; exact e)) hK0
theorem lo_l_eqf : LpOk Try.prog 32 0 lp_eqf true 0 bd_l_eqf := by
  exact lp_of (lf := 600) tb_mix (cfT_ok nat_same_ok) (by rfl) I_l_eqf mu_l_eqf sp_l_eqf (fun b j x h => by cases h) (fun S M nx K h => by obtain ⟨p, h⟩ := exB_ok h; exact ⟨p, (mustP_ok h).1, (mustP_ok h).2⟩) (fun p K h => vb_l_eqf p K (mustP_ok h).1 (mustP_ok h).2)
structure A_eqf where
  h1 : Value
  l1 : List Int
  h2 : Value
  l2 : List Int
structure R_eqf where
  q : Prop
def po_eqf (p : A_eqf) (r : R_eqf) : Prop := r.q ↔ p.l1 = p.l2
noncomputable def I_eqf (p : A_eqf) : IE := ([.sy (.imm p.h1 18 Int p.l1 encK), .sy (.imm p.h2 18 Int p.l2 encK), .fn 62 []], .leaf, 0)
noncomputable def out_eqf (p : A_eqf) (K : KE) : Bool := allB fun r : R_eqf => ifB (prB (po_eqf p r)) (K (.sy (.bool r.q)) .leaf 0) true
def pre_eqf (p : A_eqf) : Prop := p.l1.length ≤ 1000000 ∧ p.l2.length ≤ 1000000
theorem fin_eqf {p : A_eqf} {K : KE} (hK : out_eqf p K = true) (r : R_eqf) (h : po_eqf p r) : K (.sy (.bool r.q)) .leaf 0 = true := ifB_use h (allB_ok hK r)
theorem vf_eqf (p : A_eqf) (K : KE) (hpre : pre_eqf p) (hK : out_eqf p K = true) : (funE 0 (cfT nat_same) lp_eqf 600 ft_eqf (I_eqf p).1 (I_eqf p).2.1 (I_eqf p).2.2 K) = true := by
  refine Eq.trans (b := (ifB (prB (¬ (p.l1.length : Int) = (p.l2.length : Int))) (K (.sy (.bool (false = true))) .leaf 0) (exB fun p1 : A_l_eqf => must (prB (((.cons 17 (.sy (.int 0 0)) (.cons 16 (.sy (.int 0 (p.l1.length : Int))) (.cons 15 (.sy (.imm p.h1 18 Int p.l1 encK)) (.cons 2 (.fn 62 []) (.cons 1 (.sy (.imm p.h2 18 Int p.l2 encK)) .nil))))), .leaf, 0) = I_l_eqf p1)) (must (prB (pre_l_eqf p1)) (must (ifB (prB (po_l_eqf p1)) (K (.sy (.bool (true = true))) .leaf 0) true) (ifB (prB (po_l_eqf1 p1)) (K (.sy (.bool (false = true))) .leaf 0) true)))))) (by kernel_rfl) ?_
  dsimp only [pre_eqf] at hpre
  obtain ⟨u1, u2⟩ := hpre
  refine ifP (fun hc1 => ?_) (fun hc1 => ?_)
  exact fin_eqf hK ⟨false = true⟩ (by dsimp only [po_eqf] <;> (first | (simp ; done) | (simp ; assumption) | (simp ; intro e ; exact hc1 (by rw [e])) | simp_all))
  refine callP (⟨p.h1, p.l1, p.h2, p.l2, (0 : Int)⟩ : A_l_eqf) rfl (by (try dsimp only [pre_l_eqf]) ; refine ⟨by omega, by omega, by omega, by omega, rfl⟩) ?_
  refine must_mk ?_ ?_
  refine ifP (p := p.l1 = p.l2) (fun hi2 => ?_) (fun _ => rfl)
  exact fin_eqf hK ⟨true = true⟩ (by dsimp only [po_eqf] <;> (first | (simp ; done) | (simp ; assumption) | (simp ; intro e ; exact hc1 (by rw [e])) | simp_all))
  refine ifP (p := ¬ p.l1 = p.l2) (fun hi3 => ?_) (fun _ => rfl)
  exact fin_eqf hK ⟨false = true⟩ (by dsimp only [po_eqf] <;> (first | (simp ; done) | (simp ; assumption) | (simp ; intro e ; exact hc1 (by rw [e])) | simp_all))
noncomputable def nat_eqf := natC nat_same 0 (esOf I_eqf (spP pre_eqf out_eqf)) 61 [(0, 23), (1, 23)]
theorem nat_eqf_ok : NatsOk Try.prog nat_eqf := natC_ok (natE_said (f := 61) (k := 0) (lp := lp_eqf) (lf := 600) tb_mix (cfT_ok nat_same_ok) ft_eqf_ok (by rfl) (fun b j x h => (mem_step lo_l_eqf (fun h => (by cases h)) h)) fun p K h => vf_eqf p K (mustP_ok h).1 (mustP_ok h).2) nat_same_ok
end Go.Proofs.Try

namespace Go.Proofs.Try
open Go Go.RowKit Go.Eng Go.Sy
set_option linter.unusedVariables false
structure Told where
  to : Int
  fr : Int
  c : Int
  h : Value
  l : List Int
def encT (x : Told) : List PL := [.sint 0 x.to, .sint 0 x.fr, .sint 0 x.c, .imm x.h 18 Int x.l encK]
structure Rl where
  l : List Int
  com : Int
  sh : Prop
structure ROk (hd r : Rl) (c : Int) : Prop where
  pre : r.l = hd.l.take r.l.length
  len : r.l.length ≤ hd.l.length
  com0 : 0 ≤ r.com
  coml : r.com ≤ (r.l.length : Int)
  comh : r.com ≤ hd.com
  c0 : 0 ≤ c
  cl : c ≤ (r.l.length : Int)
structure MsgOk (hd : Rl) (tl : List Rl) (t : Told) : Prop where
  lo : 0 ≤ t.to
  hi : t.to < ((tl.length + 1 : Nat) : Int)
  back : t.to = 0 → ∃ (j : Nat) (r : Rl), t.c = (j : Int) ∧ (hd :: tl)[j]? = some r ∧ t.fr ≤ (r.l.length : Int)
  out : t.to ≠ 0 → 0 ≤ t.fr ∧ t.fr + (t.l.length : Int) ≤ (hd.l.length : Int) ∧ t.l = (hd.l.drop t.fr.toNat).take t.l.length ∧ t.c ≤ hd.com
structure FInv (hd : Rl) (tl : List Rl) (cs : List Int) (fly : List Told) : Prop where
  clen : cs.length = tl.length + 1
  few : fly.length ≤ 100
  short : hd.l.length ≤ 400
  each : ∀ (j : Nat) (r : Rl) (c : Int), (hd :: tl)[j]? = some r → cs[j]? = some c → ROk hd r c
  quo : (tl.length + 1) / 2 + 1 ≤ (cs.filter fun c => decide (hd.com ≤ c)).length
  msgs : ∀ t, t ∈ fly → MsgOk hd tl t
def Frz (a b : List Rl) : Prop := a.length = b.length ∧ ∀ (j : Nat) (r r' : Rl), a[j]? = some r → b[j]? = some r' → r.sh → r'.sh ∧ r'.l = r.l
theorem Frz.refl (a : List Rl) : Frz a a := ⟨rfl, fun j r r' h1 h2 h3 => by rw [h1] at h2; cases h2; exact ⟨h3, rfl⟩⟩
theorem Frz.trans {a b c : List Rl} (h1 : Frz a b) (h2 : Frz b c) : Frz a c := by
  refine ⟨h1.1.trans h2.1, fun j r r' k1 k2 k3 => ?_⟩
  have : j < b.length := by rw [← h1.1]; exact (List.getElem?_eq_some_iff.1 k1).1
  obtain ⟨m1, m2⟩ := h1.2 j r _ k1 (List.getElem?_eq_getElem this) k3
  obtain ⟨m3, m4⟩ := h2.2 j _ r' (List.getElem?_eq_getElem this) k2 m1
  exact ⟨m3, m4.trans m2⟩
theorem FInv.head {hd : Rl} {tl : List Rl} {cs : List Int} {fly : List Told} (h : FInv hd tl cs fly) {c : Int} (hc : cs[0]? = some c) : ROk hd hd c := h.each 0 hd c rfl hc
theorem FInv.cget {hd : Rl} {tl : List Rl} {cs : List Int} {fly : List Told} (h : FInv hd tl cs fly) {j : Nat} {r : Rl} (hj : (hd :: tl)[j]? = some r) : ∃ c, cs[j]? = some c := by
  have h1 := (List.getElem?_eq_some_iff.1 hj).1
  have h2 : j < cs.length := by rw [h.clen]; simpa using h1
  exact ⟨_, List.getElem?_eq_getElem h2⟩
theorem FInv.rget {hd : Rl} {tl : List Rl} {cs : List Int} {fly : List Told} (h : FInv hd tl cs fly) {j : Nat} {c : Int} (hj : cs[j]? = some c) : ∃ r, (hd :: tl)[j]? = some r := by
  have h1 := (List.getElem?_eq_some_iff.1 hj).1
  have h2 : j < (hd :: tl).length := by have := h.clen; simp only [List.length_cons]; omega
  exact ⟨_, List.getElem?_eq_getElem h2⟩
theorem FInv.roll {hd : Rl} {tl : List Rl} {cs : List Int} {fly : List Told} (h : FInv hd tl cs fly) {j : Nat} {r : Rl} (hj : (hd :: tl)[j]? = some r) : ∃ c, cs[j]? = some c ∧ ROk hd r c := by
  obtain ⟨c, hc⟩ := h.cget hj
  exact ⟨c, hc, h.each j r c hj hc⟩
theorem FInv.sub {hd : Rl} {tl : List Rl} {cs : List Int} {fly fly' : List Told} (h : FInv hd tl cs fly) (h1 : ∀ t, t ∈ fly' → t ∈ fly) (h2 : fly'.length ≤ 100) : FInv hd tl cs fly' :=
  { h with few := h2, msgs := fun t ht => h.msgs t (h1 t ht) }
theorem FInv.push {hd : Rl} {tl : List Rl} {cs : List Int} {fly : List Told} {t : Told} (h : FInv hd tl cs fly) (h1 : fly.length < 100) (h2 : MsgOk hd tl t) : FInv hd tl cs (fly ++ [t]) :=
  { h with few := (by simp; omega), msgs := (fun u hu => by
      rcases List.mem_append.1 hu with hu | hu
      · exact h.msgs u hu
      · simp only [List.mem_cons, List.not_mem_nil, or_false] at hu; subst hu; exact h2) }
def leL : List Int → List Int → Prop
  | [], [] => True
  | a :: l, b :: m => a ≤ b ∧ leL l m
  | _, _ => False
theorem leL_of : ∀ {l m : List Int}, l.length = m.length → (∀ (j : Nat) (a b : Int), l[j]? = some a → m[j]? = some b → a ≤ b) → leL l m
  | [], [], _, _ => trivial
  | a :: l, b :: m, h1, h2 => ⟨h2 0 a b rfl rfl, leL_of (by simpa using h1) fun j x y k1 k2 => h2 (j + 1) x y (by simpa using k1) (by simpa using k2)⟩
  | [], _ :: _, h1, _ => by simp at h1
  | _ :: _, [], h1, _ => by simp at h1
theorem leL.count : ∀ {l m : List Int} {v : Int}, leL l m → (l.filter fun c => decide (v ≤ c)).length ≤ (m.filter fun c => decide (v ≤ c)).length
  | [], [], _, _ => Nat.le_refl _
  | a :: l, b :: m, v, h => by
    have ih := h.2.count (v := v)
    simp only [List.filter_cons]
    have := h.1
    split <;> rename_i h1 <;> split <;> rename_i h2 <;> simp only [decide_eq_true_eq, List.length_cons] at * <;> omega
  | [], _ :: _, _, h => h.elim
  | _ :: _, [], _, h => h.elim
theorem tr_head {l l' : List Int} {com com' : Int} {sh : Prop} {tl : List Rl} {cs cs' : List Int} {fly : List Told} {maj : Nat} (h : FInv ⟨l, com, sh⟩ tl cs fly) (hm : (tl.length + 1) / 2 + 1 = maj)
    (hl : ∃ m, l' = l ++ m) (h4 : l'.length ≤ 400) (hlen : cs'.length = cs.length) (hle : leL cs cs') (hc : ∀ (j : Nat) (r : Rl) (c : Int), (Rl.mk l' com' sh :: tl)[j]? = some r → cs'[j]? = some c → c ≤ (r.l.length : Int)) (hq : comR maj com com' cs') : FInv ⟨l', com', sh⟩ tl cs' fly := by
  obtain ⟨m, rfl⟩ := hl
  obtain ⟨v, hv1, hv2⟩ := hq
  have hge : ∀ (j : Nat) (a b : Int), cs[j]? = some a → cs'[j]? = some b → a ≤ b := by
    intro j a b
    clear hc hv1 hv2 hlen h
    induction cs generalizing cs' j with
    | nil => intro k1; simp at k1
    | cons x cs ih =>
      match cs', hle with
      | y :: cs', hle =>
        cases j with
        | zero => intro k1 k2; simp at k1 k2; subst k1; subst k2; exact hle.1
        | succ j => intro k1 k2; exact ih (cs' := cs') hle.2 j (by simpa using k1) (by simpa using k2)
  have hpos : ∀ (j : Nat) (c : Int), cs'[j]? = some c → 0 ≤ c ∧ c ≤ ((l ++ m).length : Int) := by
    intro j c hj
    have hj1 : j < cs.length := by rw [← hlen]; exact (List.getElem?_eq_some_iff.1 hj).1
    obtain ⟨r, hr⟩ := h.rget (List.getElem?_eq_getElem hj1)
    have k := h.each j r _ hr (List.getElem?_eq_getElem hj1)
    have k1 := hge j _ c (List.getElem?_eq_getElem hj1) hj
    refine ⟨Int.le_trans k.c0 k1, ?_⟩
    cases j with
    | zero => exact hc 0 _ c rfl hj
    | succ j =>
      have k2 := hc (j + 1) r c (by simpa using hr) hj
      have k3 := k.len
      simp only [List.length_append] at *
      omega
  have hcom : com ≤ com' := by rw [hv1]; omega
  have h0 := h.each 0 _ _ rfl (List.getElem?_eq_getElem (show 0 < cs.length by rw [h.clen]; omega))
  have hcl : com' ≤ ((l ++ m).length : Int) := by
    rcases Int.le_total com v with k | k
    · have e : com' = v := by rw [hv1]; omega
      have : 0 < (cs'.filter fun x => decide (v ≤ x)).length := by omega
      obtain ⟨x, hx⟩ := List.exists_mem_of_length_pos this
      obtain ⟨hx1, hx2⟩ := List.mem_filter.1 hx
      obtain ⟨j, hj, rfl⟩ := List.getElem_of_mem hx1
      have := (hpos j _ (List.getElem?_eq_getElem hj)).2
      simp only [decide_eq_true_eq] at hx2
      omega
    · have e : com' = com := by rw [hv1]; omega
      have k2 := h0.coml
      simp only [List.length_append] at *
      omega
  refine ⟨by rw [hlen]; exact h.clen, h.few, h4, ?_, ?_, ?_⟩
  · intro j r c hj hcj
    obtain ⟨p1, p2⟩ := hpos j c hcj
    cases j with
    | zero =>
      simp only [List.getElem?_cons_zero, Option.some.injEq] at hj
      subst hj
      exact ⟨(List.take_length (l := l ++ m)).symm, Nat.le_refl _, Int.le_trans h0.com0 hcom, hcl, Int.le_refl _, p1, p2⟩
    | succ j =>
      obtain ⟨c2, k1, k2⟩ := h.roll (j := j + 1) (r := r) (by simpa using hj)
      exact ⟨by rw [List.take_append_of_le_length k2.len]; exact k2.pre, by have := k2.len; simp only [List.length_append] at *; omega, k2.com0, k2.coml, Int.le_trans k2.comh hcom, p1, hc (j + 1) r c hj hcj⟩
  · rcases Int.le_total com v with k | k
    · have e : com' = v := by rw [hv1]; omega
      rw [e, hm]; exact hv2
    · have e : com' = com := by rw [hv1]; omega
      rw [e]; exact Nat.le_trans h.quo hle.count
  · intro t ht
    have k := h.msgs t ht
    refine ⟨k.lo, k.hi, fun e => ?_, fun e => ?_⟩
    · obtain ⟨j, r, k1, k2, k3⟩ := k.back e
      cases j with
      | zero =>
        simp only [List.getElem?_cons_zero, Option.some.injEq] at k2
        subst k2
        exact ⟨0, _, k1, rfl, by simp only [List.length_append] at *; omega⟩
      | succ j => exact ⟨j + 1, r, k1, by simpa using k2, k3⟩
    · obtain ⟨k1, k2, k3, k4⟩ := k.out e
      refine ⟨k1, by simp only [List.length_append] at *; omega, ?_, Int.le_trans k4 hcom⟩
      rw [List.drop_append_of_le_length (by simp only at k2; omega), List.take_append_of_le_length (by simp only [List.length_drop] at *; omega)]
      exact k3
theorem leL.refl : ∀ l : List Int, leL l l
  | [] => trivial
  | a :: l => ⟨Int.le_refl a, leL.refl l⟩
theorem frz_head {l l' : List Int} {com com' : Int} {sh : Prop} {tl : List Rl} (h : sh → l' = l) : Frz (⟨l, com, sh⟩ :: tl) (⟨l', com', sh⟩ :: tl) := by
  refine ⟨rfl, fun j r r' h1 h2 h3 => ?_⟩
  cases j with
  | zero =>
    simp only [List.getElem?_cons_zero, Option.some.injEq] at h1 h2
    subst h1; subst h2
    exact ⟨h3, h h3⟩
  | succ j =>
    simp only [List.getElem?_cons_succ] at h1 h2
    rw [h1] at h2; cases h2
    exact ⟨h3, rfl⟩
theorem tr_add {l l' : List Int} {com com' c0 c0' x : Int} {sh : Prop} {tl : List Rl} {cr : List Int} {fly : List Told} {maj : Nat} (h : FInv ⟨l, com, sh⟩ tl (c0 :: cr) fly) (hm : (tl.length + 1) / 2 + 1 = maj)
    (hp : (l' = l ∧ com' = com ∧ c0' = c0) ∨ (¬ sh ∧ l.length < 400 ∧ l' = l ++ [x] ∧ c0' = (l'.length : Int) ∧ comR maj com com' (c0' :: cr))) : FInv ⟨l', com', sh⟩ tl (c0' :: cr) fly ∧ Frz (⟨l, com, sh⟩ :: tl) (⟨l', com', sh⟩ :: tl) := by
  rcases hp with ⟨rfl, rfl, rfl⟩ | ⟨hs, h1, rfl, h2, h3⟩
  · exact ⟨h, Frz.refl _⟩
  · have h0 := h.head (c := c0) rfl
    have h00 := h0.cl
    refine ⟨tr_head h hm ⟨_, rfl⟩ (by simp; omega) rfl ⟨by rw [h2]; simp only [List.length_append] at *; omega, leL.refl _⟩ ?_ h3, frz_head fun k => (hs k).elim⟩
    intro j r c k1 k2
    cases j with
    | zero => simp at k1 k2; subst k1; subst k2; rw [h2]; exact Int.le_refl _
    | succ j => exact (h.each (j + 1) r c (by simpa using k1) (by simpa using k2)).cl
theorem tr_ack {l : List Int} {com com' : Int} {sh : Prop} {tl : List Rl} {cs cs' : List Int} {fly : List Told} {maj m : Nat} (h : FInv ⟨l, com, sh⟩ tl cs fly) (hm : (tl.length + 1) / 2 + 1 = maj) (hmm : tl.length + 1 = m)
    {t : Told} (ht : MsgOk ⟨l, com, sh⟩ tl t) (hto : t.to = 0)
    (hp : (cs' = cs ∧ com' = com) ∨ ∃ j : Nat, 1 ≤ j ∧ j < m ∧ t.c = (j : Int) ∧ t.fr ≤ (l.length : Int) ∧ cs' = (cs.set j (max (cs.getD j 0) t.fr)).set 0 (l.length : Int) ∧ comR maj com com' cs') : FInv ⟨l, com', sh⟩ tl cs' fly ∧ Frz (⟨l, com, sh⟩ :: tl) (⟨l, com', sh⟩ :: tl) := by
  rcases hp with ⟨rfl, rfl⟩ | ⟨j, h1, h2, h3, h4, h5, h6⟩
  · exact ⟨h, Frz.refl _⟩
  · obtain ⟨j2, r2, k1, k2, k3⟩ := ht.back hto
    obtain rfl : j = j2 := by omega
    refine ⟨tr_head h hm ⟨[], by simp⟩ h.short (by rw [h5]; simp) ?_ ?_ h6, frz_head fun _ => rfl⟩
    · refine leL_of (by rw [h5]; simp) fun i a b p1 p2 => ?_
      rw [h5] at p2
      obtain ⟨r, hr⟩ := h.rget p1
      have ho := h.each i r a hr p1
      rw [List.getElem?_set] at p2
      split at p2
      · rename_i e; subst e
        split at p2
        · have := ho.cl; simp at hr; subst hr; simp at p2; simp at this; omega
        · cases p2
      · rw [List.getElem?_set] at p2
        split at p2
        · rename_i e; subst e
          split at p2
          · simp at p2; rw [← p2, p1]; simp; omega
          · cases p2
        · rw [p1] at p2; cases p2; exact Int.le_refl _
    · intro i r c p1 p2
      rw [h5] at p2
      rw [List.getElem?_set] at p2
      split at p2
      · rename_i e; subst e
        split at p2
        · simp at p1 p2; subst p1; subst p2; exact Int.le_refl _
        · cases p2
      · rw [List.getElem?_set] at p2
        have p1' : (Rl.mk l com sh :: tl)[i]? = some r := by cases i with
          | zero => rename_i e; exact (e rfl).elim
          | succ i => simpa using p1
        obtain ⟨c2, q1, q2⟩ := h.roll p1'
        split at p2
        · rename_i e; subst e
          split at p2
          · simp at p2; rw [← p2, q1]
            rw [k2] at p1'; cases p1'
            have := q2.cl
            simp; omega
          · cases p2
        · rw [q1] at p2; cases p2; exact q2.cl
theorem tr_shut {hd : Rl} {tl : List Rl} {cs : List Int} {fly : List Told} (h : FInv hd tl cs fly) (p : Prop) : FInv ⟨hd.l, hd.com, p⟩ tl cs fly := by
  refine ⟨h.clen, h.few, h.short, fun j r c k1 k2 => ?_, h.quo, fun t ht => ?_⟩
  · cases j with
    | zero => simp at k1; subst k1; have k := h.head (c := c) k2; exact ⟨k.1, k.2, k.3, k.4, k.5, k.6, k.7⟩
    | succ j => have k := h.each (j + 1) r c (by simpa using k1) k2; exact ⟨k.1, k.2, k.3, k.4, k.5, k.6, k.7⟩
  · have k := h.msgs t ht
    refine ⟨k.lo, k.hi, fun e => ?_, k.out⟩
    obtain ⟨j, r, k1, k2, k3⟩ := k.back e
    cases j with
    | zero => simp at k2; subst k2; exact ⟨0, _, k1, rfl, k3⟩
    | succ j => exact ⟨j + 1, r, k1, by simpa using k2, k3⟩
theorem tr_other {hd r r' : Rl} {tl : List Rl} {i : Nat} {cs : List Int} {fly : List Told} (h : FInv hd tl cs fly) (hi : tl[i]? = some r) (h1 : r'.l = hd.l.take r'.l.length) (h2 : r'.l.length ≤ hd.l.length) (h3 : r.l.length ≤ r'.l.length)
    (h4 : 0 ≤ r'.com) (h5 : r'.com ≤ (r'.l.length : Int)) (h6 : r'.com ≤ hd.com) : FInv hd (tl.set i r') cs fly := by
  have hg : ∀ (j : Nat) (x : Rl), (hd :: tl.set i r')[j]? = some x → (hd :: tl)[j]? = some x ∨ (j = i + 1 ∧ x = r') := by
    intro j x hx
    cases j with
    | zero => exact .inl hx
    | succ j =>
      simp only [List.getElem?_cons_succ] at hx ⊢
      rw [List.getElem?_set] at hx
      split at hx
      · rename_i e; subst e
        split at hx
        · cases hx; exact .inr ⟨rfl, rfl⟩
        · cases hx
      · exact .inl hx
  refine ⟨by rw [List.length_set]; exact h.clen, h.few, h.short, fun j x c k1 k2 => ?_, by rw [List.length_set]; exact h.quo, fun t ht => ?_⟩
  · rcases hg j x k1 with k | ⟨rfl, rfl⟩
    · exact h.each j x c k k2
    · obtain ⟨c2, q1, q2⟩ := h.roll (j := i + 1) (r := r) (by simpa using hi)
      rw [q1] at k2; cases k2
      exact ⟨h1, h2, h4, h5, h6, q2.c0, by have := q2.cl; omega⟩
  · have k := h.msgs t ht
    refine ⟨k.lo, by rw [List.length_set]; exact k.hi, fun e => ?_, k.out⟩
    obtain ⟨j, x, k1, k2, k3⟩ := k.back e
    by_cases hj : j = i + 1
    · subst hj
      have : x = r := by simp only [List.getElem?_cons_succ] at k2; rw [hi] at k2; cases k2; rfl
      subst this
      refine ⟨i + 1, r', k1, ?_, by omega⟩
      have := (List.getElem?_eq_some_iff.1 hi).1
      simp [this]
    · refine ⟨j, x, k1, ?_, k3⟩
      cases j with
      | zero => exact k2
      | succ j => simp only [List.getElem?_cons_succ] at k2 ⊢; rw [List.getElem?_set_ne (by omega)]; exact k2
theorem frz_other {hd r r' : Rl} {tl : List Rl} {i : Nat} (hi : tl[i]? = some r) (h : r.sh → r'.sh ∧ r'.l = r.l) : Frz (hd :: tl) (hd :: tl.set i r') := by
  refine ⟨by simp, fun j x x' h1 h2 h3 => ?_⟩
  cases j with
  | zero => rw [show (hd :: tl.set i r')[0]? = (hd :: tl)[0]? from rfl, h1] at h2; cases h2; exact ⟨h3, rfl⟩
  | succ j =>
    simp only [List.getElem?_cons_succ] at h1 h2
    rw [List.getElem?_set] at h2
    split at h2
    · rename_i e; subst e
      rw [hi] at h1; cases h1
      split at h2
      · cases h2; exact h h3
      · cases h2
    · rw [h1] at h2; cases h2; exact ⟨h3, rfl⟩
theorem take_join {l v : List Int} {n f k : Nat} {L : List Int} (h1 : n = l.length) (h2 : l = L.take n) (h3 : v = (L.drop f).take v.length) (h4 : f ≤ n) (h5 : n - f = k) : l ++ v.drop k = L.take (l ++ v.drop k).length := by
  subst h1; subst h5
  have e : v.drop (l.length - f) = (L.drop l.length).take (v.length - (l.length - f)) := by
    rw [h3]
    rw [List.drop_take, List.drop_drop, List.length_take, List.length_drop]
    congr 1
    · have : v.length ≤ L.length - f := by have := congrArg List.length h3; simp at this; omega
      omega
    · congr 1; omega
  have hl : l.length ≤ L.length := by have := congrArg List.length h2; simp at this; omega
  rw [List.length_append, List.length_drop, List.take_add, ← h2, ← e]
theorem tr_take {hd : Rl} {tl : List Rl} {i : Nat} {l l' : List Int} {com com' : Int} {sh : Prop} {cs : List Int} {fly : List Told} (h : FInv hd tl cs fly) (hi : tl[i]? = some ⟨l, com, sh⟩) {t : Told} (ht : MsgOk hd tl t) (hto : t.to ≠ 0)
    (hp : (l' = l ∧ com' = com) ∨ (0 ≤ t.fr ∧ t.fr ≤ (l.length : Int) ∧ (t.l.length : Int) ≤ 400 - t.fr ∧ ((¬ sh ∧ ((l.length : Int) - t.fr) < (t.l.length : Int) ∧ l' = l ++ t.l.drop ((l.length : Int) - t.fr).toNat) ∨ ((sh ∨ (t.l.length : Int) ≤ ((l.length : Int) - t.fr)) ∧ l' = l)) ∧ com' = max com (min t.c (l'.length : Int)))) : FInv hd (tl.set i ⟨l', com', sh⟩) cs fly ∧ Frz (hd :: tl) (hd :: tl.set i ⟨l', com', sh⟩) := by
  obtain ⟨c, q1, q2⟩ := h.roll (j := i + 1) (r := ⟨l, com, sh⟩) (by simpa using hi)
  have q3 := q2.pre; have q4 := q2.len; have q5 := q2.com0; have q6 := q2.coml; have q7 := q2.comh
  simp only at q3 q4 q5 q6 q7
  rcases hp with ⟨rfl, rfl⟩ | ⟨h1, h2, h3, h4, h5⟩
  · have e : tl.set i ⟨l', com', sh⟩ = tl := by
      refine List.ext_getElem? fun k => ?_
      rw [List.getElem?_set]
      split
      · rename_i e; subst e; rw [if_pos (List.getElem?_eq_some_iff.1 hi).1, hi]
      · rfl
    rw [e]; exact ⟨h, Frz.refl _⟩
  · obtain ⟨k1, k2, k3, k4⟩ := ht.out hto
    have key : l' = hd.l.take l'.length ∧ l'.length ≤ hd.l.length ∧ l.length ≤ l'.length ∧ (sh → l' = l) := by
      rcases h4 with ⟨p1, p2, rfl⟩ | ⟨p1, rfl⟩
      · refine ⟨take_join (f := t.fr.toNat) rfl q3 k3 (by omega) (by omega), ?_, by simp, fun k => (p1 k).elim⟩
        simp only [List.length_append, List.length_drop]; omega
      · exact ⟨q3, q4, Nat.le_refl _, fun _ => rfl⟩
    obtain ⟨e1, e2, e3, e4⟩ := key
    refine ⟨tr_other h hi e1 e2 e3 (by simp only; omega) ?_ (by simp only; omega), frz_other hi fun k => ⟨k, e4 k⟩⟩
    simp only; omega
theorem tr_shutO {hd : Rl} {tl : List Rl} {i : Nat} {l : List Int} {com : Int} {sh : Prop} {cs : List Int} {fly : List Told} (h : FInv hd tl cs fly) (hi : tl[i]? = some ⟨l, com, sh⟩) (p : Prop) : FInv hd (tl.set i ⟨l, com, p⟩) cs fly := by
  obtain ⟨c, q1, q2⟩ := h.roll (j := i + 1) (r := ⟨l, com, sh⟩) (by simpa using hi)
  exact tr_other h hi q2.pre q2.len (Nat.le_refl _) q2.com0 q2.coml q2.comh
theorem tr_since {hd : Rl} {tl : List Rl} {cs : List Int} {fly : List Told} {h0 : Value} {o : List Int} {x fr mo : Int} {m : Nat} (h : FInv hd tl cs fly) (h1 : fly.length < 100) (hmm : tl.length + 1 = m) (hx : 0 < x)
    (hp : ∃ j : Nat, j < m ∧ x = (j : Int) ∧ fr = cs.getD j 0 ∧ o = (hd.l.drop (cs.getD j 0).toNat).take ((cs.getD j 0 + min ((hd.l.length : Int) - cs.getD j 0) (max mo 0)).toNat - (cs.getD j 0).toNat)) : FInv hd tl cs (fly ++ [⟨x, fr, hd.com, h0, o⟩]) := by
  obtain ⟨j, p1, p2, p3, p4⟩ := hp
  have hj : j < cs.length := by rw [h.clen]; omega
  obtain ⟨r, hr⟩ := h.rget (List.getElem?_eq_getElem hj)
  have k := h.each j r _ hr (List.getElem?_eq_getElem hj)
  have e : cs.getD j 0 = cs[j] := by rw [List.getD_eq_getElem?_getD, List.getElem?_eq_getElem hj]; rfl
  rw [e] at p3 p4
  have k1 := k.c0; have k2 := k.cl; have k3 := k.len
  refine h.push h1 ⟨by simp only; omega, by simp only; omega, fun e => by simp only at e; omega, fun _ => ⟨by rw [p3]; exact k1, ?_, ?_, Int.le_refl _⟩⟩
  · simp only [p3, p4, List.length_take, List.length_drop]; omega
  · simp only [p3, p4]
    rw [List.length_take, ← List.take_eq_take_min]
theorem tr_len {hd r : Rl} {tl : List Rl} {cs : List Int} {fly : List Told} {h0 : Value} {x fr : Int} {j : Nat} (h : FInv hd tl cs fly) (h1 : fly.length < 100) (hr : (hd :: tl)[j]? = some r) (hx : x = (j : Int)) (hf : fr = (r.l.length : Int)) : FInv hd tl cs (fly ++ [⟨0, fr, x, h0, []⟩]) :=
  h.push h1 ⟨by simp only; omega, by simp only; omega, fun _ => ⟨j, r, hx, hr, by simp only; omega⟩, fun e => (e rfl).elim⟩
structure RightP (hd r : Rl) : Prop where
  pre : r.l = hd.l.take r.l.length
  len : r.l.length ≤ hd.l.length
  coml : r.com ≤ (r.l.length : Int)
  comh : r.com ≤ hd.com
theorem FInv.right {hd : Rl} {tl : List Rl} {cs : List Int} {fly : List Told} (h : FInv hd tl cs fly) {j : Nat} {r : Rl} (hj : (hd :: tl)[j]? = some r) : RightP hd r := by
  obtain ⟨c, q1, q2⟩ := h.roll hj
  exact ⟨q2.pre, q2.len, q2.coml, q2.comh⟩
end Go.Proofs.Try

namespace Go.Proofs.Try
open Go Go.RowKit Go.Sy
open Go.Eng hiding allB
set_option maxRecDepth 1000000
set_option linter.unusedVariables false
set_option maxHeartbeats 4000000
theorem dead_right {o l o0 l0 : List Int} {q : Prop} (h3 : q ↔ o = (o0.drop (0 : Int).toNat).take (o.length - (0 : Int).toNat)) (h5 : ¬ q) (h1 : o = l ∧ o.length = l.length) (h2 : o0 = l0 ∧ o0.length = l0.length) (h4 : l = l0.take l.length) : False := by
  obtain ⟨rfl, _⟩ := h1
  obtain ⟨rfl, _⟩ := h2
  exact h5 (h3.2 (by simpa using h4))
structure F1 where
  s0 : Rl
  c0 : Int
  fly : List Told
  cnt : Int
def FI1 (f : F1) : Prop := FInv f.s0 [] [f.c0] f.fly
def Fr1 (f g : F1) : Prop := Frz (f.s0 :: []) (g.s0 :: [])
structure F2 where
  s0 : Rl
  s1 : Rl
  c0 : Int
  c1 : Int
  fly : List Told
  cnt : Int
def FI2 (f : F2) : Prop := FInv f.s0 [f.s1] [f.c0, f.c1] f.fly
def Fr2 (f g : F2) : Prop := Frz (f.s0 :: [f.s1]) (g.s0 :: [g.s1])
structure F3 where
  s0 : Rl
  s1 : Rl
  s2 : Rl
  c0 : Int
  c1 : Int
  c2 : Int
  fly : List Told
  cnt : Int
def FI3 (f : F3) : Prop := FInv f.s0 [f.s1, f.s2] [f.c0, f.c1, f.c2] f.fly
def Fr3 (f g : F3) : Prop := Frz (f.s0 :: [f.s1, f.s2]) (g.s0 :: [g.s1, g.s2])
structure F4 where
  s0 : Rl
  s1 : Rl
  s2 : Rl
  s3 : Rl
  c0 : Int
  c1 : Int
  c2 : Int
  c3 : Int
  fly : List Told
  cnt : Int
def FI4 (f : F4) : Prop := FInv f.s0 [f.s1, f.s2, f.s3] [f.c0, f.c1, f.c2, f.c3] f.fly
def Fr4 (f g : F4) : Prop := Frz (f.s0 :: [f.s1, f.s2, f.s3]) (g.s0 :: [g.s1, g.s2, g.s3])
structure F5 where
  s0 : Rl
  s1 : Rl
  s2 : Rl
  s3 : Rl
  s4 : Rl
  c0 : Int
  c1 : Int
  c2 : Int
  c3 : Int
  c4 : Int
  fly : List Told
  cnt : Int
def FI5 (f : F5) : Prop := FInv f.s0 [f.s1, f.s2, f.s3, f.s4] [f.c0, f.c1, f.c2, f.c3, f.c4] f.fly
def Fr5 (f g : F5) : Prop := Frz (f.s0 :: [f.s1, f.s2, f.s3, f.s4]) (g.s0 :: [g.s1, g.s2, g.s3, g.s4])
noncomputable def Fd1 (f : F1) (k0 : Nat) (k1 : Nat) : T := (.node (.node (.node .leaf (some (.blk false 67 10 [[.int 1 (.ofNat 0), .int 3 (.ofNat 1), .sl 4 0 1 (.rest 0), .int 1 (.ofNat 0), .int 2 (.ofNat 1), .sy (.prow 5 k1), .int 0 (.ofNat 0), .sy (.int 0 f.s0.com), .sy (.bool f.s0.sh), .map 6]])) .leaf) (some (.blk true 22 1 [[.ptr 3 0]])) (.node .leaf (some (.prow 45 18 Int f.s0.l encK)) .leaf)) (some (.blk false 81 3 [[.sl 1 0 1 (.rest 0), .sy (.prow 2 k0), .sy (.int 0 f.cnt)]])) (.node (.node .leaf (some (.blk true 31 2 [[.int 1 (.ofNat 0), .int 2 (.ofNat 1)]])) .leaf) (some (.prow 100 4 Told f.fly encT)) (.node .leaf (some (.map [(.agg [.int 1 (.ofNat 0), .int 2 (.ofNat 1)], .sy (.int 0 f.c0), 0)] 1)) .leaf)))
noncomputable def Fd1n (f : F1) : T := Fd1 f f.fly.length f.s0.l.length
noncomputable def Fb1 (f : F1) (k : Int) (x : Int) (nn : Int) (i : Int) (k0 : Nat) (k1 : Nat) : T := (.node (.node (.node (.node .leaf (some (.map [(.agg [.int 1 (.ofNat 0), .int 2 (.ofNat 1)], .sy (.int 0 f.c0), 0)] 1)) .leaf) (some (.prow 100 4 Told f.fly encT)) .leaf) (some (.blk false 74 4 [[.sy (.int 0 k), .sy (.int 0 x), .sy (.int 0 nn), .sy (.int 0 i)]])) (.node .leaf (some (.blk true 31 2 [[.int 1 (.ofNat 0), .int 2 (.ofNat 1)]])) .leaf)) (some (.blk false 81 3 [[.sl 2 0 1 (.rest 0), .sy (.prow 3 k0), .sy (.int 0 f.cnt)]])) (.node (.node .leaf (some (.blk false 67 10 [[.int 1 (.ofNat 0), .int 3 (.ofNat 1), .sl 5 0 1 (.rest 0), .int 1 (.ofNat 0), .int 2 (.ofNat 1), .sy (.prow 6 k1), .int 0 (.ofNat 0), .sy (.int 0 f.s0.com), .sy (.bool f.s0.sh), .map 7]])) .leaf) (some (.blk true 22 1 [[.ptr 4 0]])) (.node .leaf (some (.prow 45 18 Int f.s0.l encK)) .leaf)))
noncomputable def Fb1n (f : F1) (k : Int) (x : Int) (nn : Int) (i : Int) : T := Fb1 f k x nn i f.fly.length f.s0.l.length
noncomputable def Fg2 (f : F2) (e1 : Int) (d1_0 : Int) (d1_1 : Int) (k0 : Nat) (k1 : Nat) (k2 : Nat) : T := (.node (.node (.node (.node .leaf (some (.map [(.agg [.int 1 (.ofNat 0), .int 2 (.ofNat 1)], .sy (.int 0 f.c0), 0), (.agg [.int 1 (.ofNat 1), .int 2 (.ofNat 1)], .sy (.int 0 f.c1), 1)] 2)) .leaf) (some (.blk false 67 10 [[.int 1 (.ofNat 0), .int 3 (.ofNat 1), .sl 5 0 2 (.rest 0), .int 1 (.ofNat 0), .int 2 (.ofNat 1), .sy (.prow 6 k1), .int 0 (.ofNat 0), .sy (.int 0 f.s0.com), .sy (.bool f.s0.sh), .map 7]])) .leaf) (some (.blk true 22 1 [[.ptr 3 0], [.ptr 4 0]])) (.node (.node .leaf (some (.prow 45 18 Int f.s1.l encK)) .leaf) (some (.blk true 31 2 [[.int 1 (.ofNat 0), .int 2 (.ofNat 1)], [.int 1 (.ofNat 1), .int 2 (.ofNat 1)]])) .leaf)) (some (.blk false 81 3 [[.sl 1 0 2 (.rest 0), .sy (.prow 2 k0), .sy (.int 0 f.cnt)]])) (.node (.node (.node .leaf (some (.blk true 31 2 [[.int 1 (.ofNat 0), .int 2 (.ofNat 1)], [.int 1 (.ofNat 1), .int 2 (.ofNat 1)]])) .leaf) (some (.blk false 67 10 [[.int 1 (.ofNat 0), .int 3 (.ofNat 1), .sl 8 0 2 (.rest 0), .sy (.int 1 e1), .int 2 (.ofNat 1), .sy (.prow 9 k2), .int 0 (.ofNat 0), .sy (.int 0 f.s1.com), .sy (.bool f.s1.sh), .map 10]])) .leaf) (some (.prow 100 4 Told f.fly encT)) (.node (.node .leaf (some (.map [(.agg [.int 1 (.ofNat 0), .int 2 (.ofNat 1)], .sy (.int 0 d1_0), 0), (.agg [.int 1 (.ofNat 1), .int 2 (.ofNat 1)], .sy (.int 0 d1_1), 1)] 2)) .leaf) (some (.prow 45 18 Int f.s0.l encK)) .leaf)))
noncomputable def Fd2 (f : F2) (k0 : Nat) (k1 : Nat) (k2 : Nat) : T := (Fg2 f 1 0 0 k0 k1 k2)
noncomputable def Fd2n (f : F2) : T := Fd2 f f.fly.length f.s0.l.length f.s1.l.length
noncomputable def Fb2 (f : F2) (k : Int) (x : Int) (nn : Int) (i : Int) (k0 : Nat) (k1 : Nat) (k2 : Nat) : T := (.node (.node (.node (.node .leaf (some (.prow 45 18 Int f.s0.l encK)) .leaf) (some (.prow 100 4 Told f.fly encT)) (.node .leaf (some (.map [(.agg [.int 1 (.ofNat 0), .int 2 (.ofNat 1)], .sy (.int 0 0), 0), (.agg [.int 1 (.ofNat 1), .int 2 (.ofNat 1)], .sy (.int 0 0), 1)] 2)) .leaf)) (some (.blk false 74 4 [[.sy (.int 0 k), .sy (.int 0 x), .sy (.int 0 nn), .sy (.int 0 i)]])) (.node (.node .leaf (some (.blk true 31 2 [[.int 1 (.ofNat 0), .int 2 (.ofNat 1)], [.int 1 (.ofNat 1), .int 2 (.ofNat 1)]])) .leaf) (some (.blk false 67 10 [[.int 1 (.ofNat 0), .int 3 (.ofNat 1), .sl 9 0 2 (.rest 0), .sy (.int 1 1), .int 2 (.ofNat 1), .sy (.prow 10 k2), .int 0 (.ofNat 0), .sy (.int 0 f.s1.com), .sy (.bool f.s1.sh), .map 11]])) .leaf)) (some (.blk false 81 3 [[.sl 2 0 2 (.rest 0), .sy (.prow 3 k0), .sy (.int 0 f.cnt)]])) (.node (.node (.node .leaf (some (.map [(.agg [.int 1 (.ofNat 0), .int 2 (.ofNat 1)], .sy (.int 0 f.c0), 0), (.agg [.int 1 (.ofNat 1), .int 2 (.ofNat 1)], .sy (.int 0 f.c1), 1)] 2)) .leaf) (some (.blk false 67 10 [[.int 1 (.ofNat 0), .int 3 (.ofNat 1), .sl 6 0 2 (.rest 0), .int 1 (.ofNat 0), .int 2 (.ofNat 1), .sy (.prow 7 k1), .int 0 (.ofNat 0), .sy (.int 0 f.s0.com), .sy (.bool f.s0.sh), .map 8]])) .leaf) (some (.blk true 22 1 [[.ptr 4 0], [.ptr 5 0]])) (.node (.node .leaf (some (.prow 45 18 Int f.s1.l encK)) .leaf) (some (.blk true 31 2 [[.int 1 (.ofNat 0), .int 2 (.ofNat 1)], [.int 1 (.ofNat 1), .int 2 (.ofNat 1)]])) .leaf)))
noncomputable def Fb2n (f : F2) (k : Int) (x : Int) (nn : Int) (i : Int) : T := Fb2 f k x nn i f.fly.length f.s0.l.length f.s1.l.length
noncomputable def Fg3 (f : F3) (e1 : Int) (d1_0 : Int) (d1_1 : Int) (d1_2 : Int) (e2 : Int) (d2_0 : Int) (d2_1 : Int) (d2_2 : Int) (k0 : Nat) (k1 : Nat) (k2 : Nat) (k3 : Nat) : T := (.node (.node (.node (.node .leaf (some (.prow 45 18 Int f.s0.l encK)) .leaf) (some (.blk false 67 10 [[.int 1 (.ofNat 0), .int 3 (.ofNat 1), .sl 6 0 3 (.rest 0), .int 1 (.ofNat 0), .int 2 (.ofNat 1), .sy (.prow 7 k1), .int 0 (.ofNat 0), .sy (.int 0 f.s0.com), .sy (.bool f.s0.sh), .map 8]])) (.node .leaf (some (.map [(.agg [.int 1 (.ofNat 0), .int 2 (.ofNat 1)], .sy (.int 0 d1_0), 0), (.agg [.int 1 (.ofNat 1), .int 2 (.ofNat 1)], .sy (.int 0 d1_1), 1), (.agg [.int 1 (.ofNat 2), .int 2 (.ofNat 1)], .sy (.int 0 d1_2), 2)] 3)) .leaf)) (some (.blk true 22 1 [[.ptr 3 0], [.ptr 4 0], [.ptr 5 0]])) (.node (.node .leaf (some (.blk true 31 2 [[.int 1 (.ofNat 0), .int 2 (.ofNat 1)], [.int 1 (.ofNat 1), .int 2 (.ofNat 1)], [.int 1 (.ofNat 2), .int 2 (.ofNat 1)]])) .leaf) (some (.blk false 67 10 [[.int 1 (.ofNat 0), .int 3 (.ofNat 1), .sl 12 0 3 (.rest 0), .sy (.int 1 e2), .int 2 (.ofNat 1), .sy (.prow 13 k3), .int 0 (.ofNat 0), .sy (.int 0 f.s2.com), .sy (.bool f.s2.sh), .map 14]])) (.node .leaf (some (.prow 45 18 Int f.s2.l encK)) .leaf))) (some (.blk false 81 3 [[.sl 1 0 3 (.rest 0), .sy (.prow 2 k0), .sy (.int 0 f.cnt)]])) (.node (.node (.node .leaf (some (.map [(.agg [.int 1 (.ofNat 0), .int 2 (.ofNat 1)], .sy (.int 0 f.c0), 0), (.agg [.int 1 (.ofNat 1), .int 2 (.ofNat 1)], .sy (.int 0 f.c1), 1), (.agg [.int 1 (.ofNat 2), .int 2 (.ofNat 1)], .sy (.int 0 f.c2), 2)] 3)) .leaf) (some (.blk false 67 10 [[.int 1 (.ofNat 0), .int 3 (.ofNat 1), .sl 9 0 3 (.rest 0), .sy (.int 1 e1), .int 2 (.ofNat 1), .sy (.prow 10 k2), .int 0 (.ofNat 0), .sy (.int 0 f.s1.com), .sy (.bool f.s1.sh), .map 11]])) (.node .leaf (some (.blk true 31 2 [[.int 1 (.ofNat 0), .int 2 (.ofNat 1)], [.int 1 (.ofNat 1), .int 2 (.ofNat 1)], [.int 1 (.ofNat 2), .int 2 (.ofNat 1)]])) .leaf)) (some (.prow 100 4 Told f.fly encT)) (.node (.node .leaf (some (.prow 45 18 Int f.s1.l encK)) .leaf) (some (.blk true 31 2 [[.int 1 (.ofNat 0), .int 2 (.ofNat 1)], [.int 1 (.ofNat 1), .int 2 (.ofNat 1)], [.int 1 (.ofNat 2), .int 2 (.ofNat 1)]])) (.node .leaf (some (.map [(.agg [.int 1 (.ofNat 0), .int 2 (.ofNat 1)], .sy (.int 0 d2_0), 0), (.agg [.int 1 (.ofNat 1), .int 2 (.ofNat 1)], .sy (.int 0 d2_1), 1), (.agg [.int 1 (.ofNat 2), .int 2 (.ofNat 1)], .sy (.int 0 d2_2), 2)] 3)) .leaf))))
noncomputable def Fd3 (f : F3) (k0 : Nat) (k1 : Nat) (k2 : Nat) (k3 : Nat) : T := (Fg3 f 1 0 0 0 2 0 0 0 k0 k1 k2 k3)
noncomputable def Fd3n (f : F3) : T := Fd3 f f.fly.length f.s0.l.length f.s1.l.length f.s2.l.length
noncomputable def Fb3 (f : F3) (k : Int) (x : Int) (nn : Int) (i : Int) (k0 : Nat) (k1 : Nat) (k2 : Nat) (k3 : Nat) : T := (.node (.node (.node (.node (.node .leaf (some (.map [(.agg [.int 1 (.ofNat 0), .int 2 (.ofNat 1)], .sy (.int 0 0), 0), (.agg [.int 1 (.ofNat 1), .int 2 (.ofNat 1)], .sy (.int 0 0), 1), (.agg [.int 1 (.ofNat 2), .int 2 (.ofNat 1)], .sy (.int 0 0), 2)] 3)) .leaf) (some (.blk true 31 2 [[.int 1 (.ofNat 0), .int 2 (.ofNat 1)], [.int 1 (.ofNat 1), .int 2 (.ofNat 1)], [.int 1 (.ofNat 2), .int 2 (.ofNat 1)]])) .leaf) (some (.prow 100 4 Told f.fly encT)) (.node .leaf (some (.prow 45 18 Int f.s1.l encK)) .leaf)) (some (.blk false 74 4 [[.sy (.int 0 k), .sy (.int 0 x), .sy (.int 0 nn), .sy (.int 0 i)]])) (.node (.node .leaf (some (.map [(.agg [.int 1 (.ofNat 0), .int 2 (.ofNat 1)], .sy (.int 0 f.c0), 0), (.agg [.int 1 (.ofNat 1), .int 2 (.ofNat 1)], .sy (.int 0 f.c1), 1), (.agg [.int 1 (.ofNat 2), .int 2 (.ofNat 1)], .sy (.int 0 f.c2), 2)] 3)) .leaf) (some (.blk false 67 10 [[.int 1 (.ofNat 0), .int 3 (.ofNat 1), .sl 10 0 3 (.rest 0), .sy (.int 1 1), .int 2 (.ofNat 1), .sy (.prow 11 k2), .int 0 (.ofNat 0), .sy (.int 0 f.s1.com), .sy (.bool f.s1.sh), .map 12]])) (.node .leaf (some (.blk true 31 2 [[.int 1 (.ofNat 0), .int 2 (.ofNat 1)], [.int 1 (.ofNat 1), .int 2 (.ofNat 1)], [.int 1 (.ofNat 2), .int 2 (.ofNat 1)]])) .leaf))) (some (.blk false 81 3 [[.sl 2 0 3 (.rest 0), .sy (.prow 3 k0), .sy (.int 0 f.cnt)]])) (.node (.node (.node .leaf (some (.prow 45 18 Int f.s0.l encK)) .leaf) (some (.blk false 67 10 [[.int 1 (.ofNat 0), .int 3 (.ofNat 1), .sl 7 0 3 (.rest 0), .int 1 (.ofNat 0), .int 2 (.ofNat 1), .sy (.prow 8 k1), .int 0 (.ofNat 0), .sy (.int 0 f.s0.com), .sy (.bool f.s0.sh), .map 9]])) (.node .leaf (some (.map [(.agg [.int 1 (.ofNat 0), .int 2 (.ofNat 1)], .sy (.int 0 0), 0), (.agg [.int 1 (.ofNat 1), .int 2 (.ofNat 1)], .sy (.int 0 0), 1), (.agg [.int 1 (.ofNat 2), .int 2 (.ofNat 1)], .sy (.int 0 0), 2)] 3)) .leaf)) (some (.blk true 22 1 [[.ptr 4 0], [.ptr 5 0], [.ptr 6 0]])) (.node (.node .leaf (some (.blk true 31 2 [[.int 1 (.ofNat 0), .int 2 (.ofNat 1)], [.int 1 (.ofNat 1), .int 2 (.ofNat 1)], [.int 1 (.ofNat 2), .int 2 (.ofNat 1)]])) .leaf) (some (.blk false 67 10 [[.int 1 (.ofNat 0), .int 3 (.ofNat 1), .sl 13 0 3 (.rest 0), .sy (.int 1 2), .int 2 (.ofNat 1), .sy (.prow 14 k3), .int 0 (.ofNat 0), .sy (.int 0 f.s2.com), .sy (.bool f.s2.sh), .map 15]])) (.node .leaf (some (.prow 45 18 Int f.s2.l encK)) .leaf))))
noncomputable def Fb3n (f : F3) (k : Int) (x : Int) (nn : Int) (i : Int) : T := Fb3 f k x nn i f.fly.length f.s0.l.length f.s1.l.length f.s2.l.length
noncomputable def Fg4 (f : F4) (e1 : Int) (d1_0 : Int) (d1_1 : Int) (d1_2 : Int) (d1_3 : Int) (e2 : Int) (d2_0 : Int) (d2_1 : Int) (d2_2 : Int) (d2_3 : Int) (e3 : Int) (d3_0 : Int) (d3_1 : Int) (d3_2 : Int) (d3_3 : Int) (k0 : Nat) (k1 : Nat) (k2 : Nat) (k3 : Nat) (k4 : Nat) : T := (.node (.node (.node (.node (.node .leaf (some (.map [(.agg [.int 1 (.ofNat 0), .int 2 (.ofNat 1)], .sy (.int 0 d2_0), 0), (.agg [.int 1 (.ofNat 1), .int 2 (.ofNat 1)], .sy (.int 0 d2_1), 1), (.agg [.int 1 (.ofNat 2), .int 2 (.ofNat 1)], .sy (.int 0 d2_2), 2), (.agg [.int 1 (.ofNat 3), .int 2 (.ofNat 1)], .sy (.int 0 d2_3), 3)] 4)) .leaf) (some (.blk true 31 2 [[.int 1 (.ofNat 0), .int 2 (.ofNat 1)], [.int 1 (.ofNat 1), .int 2 (.ofNat 1)], [.int 1 (.ofNat 2), .int 2 (.ofNat 1)], [.int 1 (.ofNat 3), .int 2 (.ofNat 1)]])) .leaf) (some (.blk false 67 10 [[.int 1 (.ofNat 0), .int 3 (.ofNat 1), .sl 7 0 4 (.rest 0), .int 1 (.ofNat 0), .int 2 (.ofNat 1), .sy (.prow 8 k1), .int 0 (.ofNat 0), .sy (.int 0 f.s0.com), .sy (.bool f.s0.sh), .map 9]])) (.node .leaf (some (.prow 45 18 Int f.s1.l encK)) .leaf)) (some (.blk true 22 1 [[.ptr 3 0], [.ptr 4 0], [.ptr 5 0], [.ptr 6 0]])) (.node (.node (.node .leaf (some (.prow 45 18 Int f.s3.l encK)) .leaf) (some (.map [(.agg [.int 1 (.ofNat 0), .int 2 (.ofNat 1)], .sy (.int 0 f.c0), 0), (.agg [.int 1 (.ofNat 1), .int 2 (.ofNat 1)], .sy (.int 0 f.c1), 1), (.agg [.int 1 (.ofNat 2), .int 2 (.ofNat 1)], .sy (.int 0 f.c2), 2), (.agg [.int 1 (.ofNat 3), .int 2 (.ofNat 1)], .sy (.int 0 f.c3), 3)] 4)) .leaf) (some (.blk false 67 10 [[.int 1 (.ofNat 0), .int 3 (.ofNat 1), .sl 13 0 4 (.rest 0), .sy (.int 1 e2), .int 2 (.ofNat 1), .sy (.prow 14 k3), .int 0 (.ofNat 0), .sy (.int 0 f.s2.com), .sy (.bool f.s2.sh), .map 15]])) (.node .leaf (some (.blk true 31 2 [[.int 1 (.ofNat 0), .int 2 (.ofNat 1)], [.int 1 (.ofNat 1), .int 2 (.ofNat 1)], [.int 1 (.ofNat 2), .int 2 (.ofNat 1)], [.int 1 (.ofNat 3), .int 2 (.ofNat 1)]])) .leaf))) (some (.blk false 81 3 [[.sl 1 0 4 (.rest 0), .sy (.prow 2 k0), .sy (.int 0 f.cnt)]])) (.node (.node (.node (.node .leaf (some (.blk true 31 2 [[.int 1 (.ofNat 0), .int 2 (.ofNat 1)], [.int 1 (.ofNat 1), .int 2 (.ofNat 1)], [.int 1 (.ofNat 2), .int 2 (.ofNat 1)], [.int 1 (.ofNat 3), .int 2 (.ofNat 1)]])) .leaf) (some (.prow 45 18 Int f.s0.l encK)) .leaf) (some (.blk false 67 10 [[.int 1 (.ofNat 0), .int 3 (.ofNat 1), .sl 10 0 4 (.rest 0), .sy (.int 1 e1), .int 2 (.ofNat 1), .sy (.prow 11 k2), .int 0 (.ofNat 0), .sy (.int 0 f.s1.com), .sy (.bool f.s1.sh), .map 12]])) (.node .leaf (some (.map [(.agg [.int 1 (.ofNat 0), .int 2 (.ofNat 1)], .sy (.int 0 d1_0), 0), (.agg [.int 1 (.ofNat 1), .int 2 (.ofNat 1)], .sy (.int 0 d1_1), 1), (.agg [.int 1 (.ofNat 2), .int 2 (.ofNat 1)], .sy (.int 0 d1_2), 2), (.agg [.int 1 (.ofNat 3), .int 2 (.ofNat 1)], .sy (.int 0 d1_3), 3)] 4)) .leaf)) (some (.prow 100 4 Told f.fly encT)) (.node (.node (.node .leaf (some (.map [(.agg [.int 1 (.ofNat 0), .int 2 (.ofNat 1)], .sy (.int 0 d3_0), 0), (.agg [.int 1 (.ofNat 1), .int 2 (.ofNat 1)], .sy (.int 0 d3_1), 1), (.agg [.int 1 (.ofNat 2), .int 2 (.ofNat 1)], .sy (.int 0 d3_2), 2), (.agg [.int 1 (.ofNat 3), .int 2 (.ofNat 1)], .sy (.int 0 d3_3), 3)] 4)) .leaf) (some (.blk true 31 2 [[.int 1 (.ofNat 0), .int 2 (.ofNat 1)], [.int 1 (.ofNat 1), .int 2 (.ofNat 1)], [.int 1 (.ofNat 2), .int 2 (.ofNat 1)], [.int 1 (.ofNat 3), .int 2 (.ofNat 1)]])) .leaf) (some (.blk false 67 10 [[.int 1 (.ofNat 0), .int 3 (.ofNat 1), .sl 16 0 4 (.rest 0), .sy (.int 1 e3), .int 2 (.ofNat 1), .sy (.prow 17 k4), .int 0 (.ofNat 0), .sy (.int 0 f.s3.com), .sy (.bool f.s3.sh), .map 18]])) (.node .leaf (some (.prow 45 18 Int f.s2.l encK)) .leaf))))
noncomputable def Fd4 (f : F4) (k0 : Nat) (k1 : Nat) (k2 : Nat) (k3 : Nat) (k4 : Nat) : T := (Fg4 f 1 0 0 0 0 2 0 0 0 0 3 0 0 0 0 k0 k1 k2 k3 k4)
noncomputable def Fd4n (f : F4) : T := Fd4 f f.fly.length f.s0.l.length f.s1.l.length f.s2.l.length f.s3.l.length
noncomputable def Fb4 (f : F4) (k : Int) (x : Int) (nn : Int) (i : Int) (k0 : Nat) (k1 : Nat) (k2 : Nat) (k3 : Nat) (k4 : Nat) : T := (.node (.node (.node (.node (.node .leaf (some (.prow 45 18 Int f.s2.l encK)) .leaf) (some (.blk false 67 10 [[.int 1 (.ofNat 0), .int 3 (.ofNat 1), .sl 17 0 4 (.rest 0), .sy (.int 1 3), .int 2 (.ofNat 1), .sy (.prow 18 k4), .int 0 (.ofNat 0), .sy (.int 0 f.s3.com), .sy (.bool f.s3.sh), .map 19]])) .leaf) (some (.prow 100 4 Told f.fly encT)) (.node (.node .leaf (some (.map [(.agg [.int 1 (.ofNat 0), .int 2 (.ofNat 1)], .sy (.int 0 0), 0), (.agg [.int 1 (.ofNat 1), .int 2 (.ofNat 1)], .sy (.int 0 0), 1), (.agg [.int 1 (.ofNat 2), .int 2 (.ofNat 1)], .sy (.int 0 0), 2), (.agg [.int 1 (.ofNat 3), .int 2 (.ofNat 1)], .sy (.int 0 0), 3)] 4)) .leaf) (some (.blk true 31 2 [[.int 1 (.ofNat 0), .int 2 (.ofNat 1)], [.int 1 (.ofNat 1), .int 2 (.ofNat 1)], [.int 1 (.ofNat 2), .int 2 (.ofNat 1)], [.int 1 (.ofNat 3), .int 2 (.ofNat 1)]])) .leaf)) (some (.blk false 74 4 [[.sy (.int 0 k), .sy (.int 0 x), .sy (.int 0 nn), .sy (.int 0 i)]])) (.node (.node (.node .leaf (some (.blk true 31 2 [[.int 1 (.ofNat 0), .int 2 (.ofNat 1)], [.int 1 (.ofNat 1), .int 2 (.ofNat 1)], [.int 1 (.ofNat 2), .int 2 (.ofNat 1)], [.int 1 (.ofNat 3), .int 2 (.ofNat 1)]])) .leaf) (some (.prow 45 18 Int f.s0.l encK)) .leaf) (some (.blk false 67 10 [[.int 1 (.ofNat 0), .int 3 (.ofNat 1), .sl 11 0 4 (.rest 0), .sy (.int 1 1), .int 2 (.ofNat 1), .sy (.prow 12 k2), .int 0 (.ofNat 0), .sy (.int 0 f.s1.com), .sy (.bool f.s1.sh), .map 13]])) (.node .leaf (some (.map [(.agg [.int 1 (.ofNat 0), .int 2 (.ofNat 1)], .sy (.int 0 0), 0), (.agg [.int 1 (.ofNat 1), .int 2 (.ofNat 1)], .sy (.int 0 0), 1), (.agg [.int 1 (.ofNat 2), .int 2 (.ofNat 1)], .sy (.int 0 0), 2), (.agg [.int 1 (.ofNat 3), .int 2 (.ofNat 1)], .sy (.int 0 0), 3)] 4)) .leaf))) (some (.blk false 81 3 [[.sl 2 0 4 (.rest 0), .sy (.prow 3 k0), .sy (.int 0 f.cnt)]])) (.node (.node (.node (.node .leaf (some (.map [(.agg [.int 1 (.ofNat 0), .int 2 (.ofNat 1)], .sy (.int 0 0), 0), (.agg [.int 1 (.ofNat 1), .int 2 (.ofNat 1)], .sy (.int 0 0), 1), (.agg [.int 1 (.ofNat 2), .int 2 (.ofNat 1)], .sy (.int 0 0), 2), (.agg [.int 1 (.ofNat 3), .int 2 (.ofNat 1)], .sy (.int 0 0), 3)] 4)) .leaf) (some (.blk true 31 2 [[.int 1 (.ofNat 0), .int 2 (.ofNat 1)], [.int 1 (.ofNat 1), .int 2 (.ofNat 1)], [.int 1 (.ofNat 2), .int 2 (.ofNat 1)], [.int 1 (.ofNat 3), .int 2 (.ofNat 1)]])) .leaf) (some (.blk false 67 10 [[.int 1 (.ofNat 0), .int 3 (.ofNat 1), .sl 8 0 4 (.rest 0), .int 1 (.ofNat 0), .int 2 (.ofNat 1), .sy (.prow 9 k1), .int 0 (.ofNat 0), .sy (.int 0 f.s0.com), .sy (.bool f.s0.sh), .map 10]])) (.node .leaf (some (.prow 45 18 Int f.s1.l encK)) .leaf)) (some (.blk true 22 1 [[.ptr 4 0], [.ptr 5 0], [.ptr 6 0], [.ptr 7 0]])) (.node (.node (.node .leaf (some (.prow 45 18 Int f.s3.l encK)) .leaf) (some (.map [(.agg [.int 1 (.ofNat 0), .int 2 (.ofNat 1)], .sy (.int 0 f.c0), 0), (.agg [.int 1 (.ofNat 1), .int 2 (.ofNat 1)], .sy (.int 0 f.c1), 1), (.agg [.int 1 (.ofNat 2), .int 2 (.ofNat 1)], .sy (.int 0 f.c2), 2), (.agg [.int 1 (.ofNat 3), .int 2 (.ofNat 1)], .sy (.int 0 f.c3), 3)] 4)) .leaf) (some (.blk false 67 10 [[.int 1 (.ofNat 0), .int 3 (.ofNat 1), .sl 14 0 4 (.rest 0), .sy (.int 1 2), .int 2 (.ofNat 1), .sy (.prow 15 k3), .int 0 (.ofNat 0), .sy (.int 0 f.s2.com), .sy (.bool f.s2.sh), .map 16]])) (.node .leaf (some (.blk true 31 2 [[.int 1 (.ofNat 0), .int 2 (.ofNat 1)], [.int 1 (.ofNat 1), .int 2 (.ofNat 1)], [.int 1 (.ofNat 2), .int 2 (.ofNat 1)], [.int 1 (.ofNat 3), .int 2 (.ofNat 1)]])) .leaf))))
noncomputable def Fb4n (f : F4) (k : Int) (x : Int) (nn : Int) (i : Int) : T := Fb4 f k x nn i f.fly.length f.s0.l.length f.s1.l.length f.s2.l.length f.s3.l.length
noncomputable def Fg5 (f : F5) (e1 : Int) (d1_0 : Int) (d1_1 : Int) (d1_2 : Int) (d1_3 : Int) (d1_4 : Int) (e2 : Int) (d2_0 : Int) (d2_1 : Int) (d2_2 : Int) (d2_3 : Int) (d2_4 : Int) (e3 : Int) (d3_0 : Int) (d3_1 : Int) (d3_2 : Int) (d3_3 : Int) (d3_4 : Int) (e4 : Int) (d4_0 : Int) (d4_1 : Int) (d4_2 : Int) (d4_3 : Int) (d4_4 : Int) (k0 : Nat) (k1 : Nat) (k2 : Nat) (k3 : Nat) (k4 : Nat) (k5 : Nat) : T := (.node (.node (.node (.node (.node .leaf (some (.prow 45 18 Int f.s2.l encK)) .leaf) (some (.blk false 67 10 [[.int 1 (.ofNat 0), .int 3 (.ofNat 1), .sl 20 0 5 (.rest 0), .sy (.int 1 e4), .int 2 (.ofNat 1), .sy (.prow 21 k5), .int 0 (.ofNat 0), .sy (.int 0 f.s4.com), .sy (.bool f.s4.sh), .map 22]])) .leaf) (some (.blk false 67 10 [[.int 1 (.ofNat 0), .int 3 (.ofNat 1), .sl 8 0 5 (.rest 0), .int 1 (.ofNat 0), .int 2 (.ofNat 1), .sy (.prow 9 k1), .int 0 (.ofNat 0), .sy (.int 0 f.s0.com), .sy (.bool f.s0.sh), .map 10]])) (.node (.node .leaf (some (.map [(.agg [.int 1 (.ofNat 0), .int 2 (.ofNat 1)], .sy (.int 0 d3_0), 0), (.agg [.int 1 (.ofNat 1), .int 2 (.ofNat 1)], .sy (.int 0 d3_1), 1), (.agg [.int 1 (.ofNat 2), .int 2 (.ofNat 1)], .sy (.int 0 d3_2), 2), (.agg [.int 1 (.ofNat 3), .int 2 (.ofNat 1)], .sy (.int 0 d3_3), 3), (.agg [.int 1 (.ofNat 4), .int 2 (.ofNat 1)], .sy (.int 0 d3_4), 4)] 5)) .leaf) (some (.blk true 31 2 [[.int 1 (.ofNat 0), .int 2 (.ofNat 1)], [.int 1 (.ofNat 1), .int 2 (.ofNat 1)], [.int 1 (.ofNat 2), .int 2 (.ofNat 1)], [.int 1 (.ofNat 3), .int 2 (.ofNat 1)], [.int 1 (.ofNat 4), .int 2 (.ofNat 1)]])) .leaf)) (some (.blk true 22 1 [[.ptr 3 0], [.ptr 4 0], [.ptr 5 0], [.ptr 6 0], [.ptr 7 0]])) (.node (.node (.node .leaf (some (.blk true 31 2 [[.int 1 (.ofNat 0), .int 2 (.ofNat 1)], [.int 1 (.ofNat 1), .int 2 (.ofNat 1)], [.int 1 (.ofNat 2), .int 2 (.ofNat 1)], [.int 1 (.ofNat 3), .int 2 (.ofNat 1)], [.int 1 (.ofNat 4), .int 2 (.ofNat 1)]])) .leaf) (some (.prow 45 18 Int f.s0.l encK)) .leaf) (some (.blk false 67 10 [[.int 1 (.ofNat 0), .int 3 (.ofNat 1), .sl 14 0 5 (.rest 0), .sy (.int 1 e2), .int 2 (.ofNat 1), .sy (.prow 15 k3), .int 0 (.ofNat 0), .sy (.int 0 f.s2.com), .sy (.bool f.s2.sh), .map 16]])) (.node (.node .leaf (some (.prow 45 18 Int f.s4.l encK)) .leaf) (some (.map [(.agg [.int 1 (.ofNat 0), .int 2 (.ofNat 1)], .sy (.int 0 d1_0), 0), (.agg [.int 1 (.ofNat 1), .int 2 (.ofNat 1)], .sy (.int 0 d1_1), 1), (.agg [.int 1 (.ofNat 2), .int 2 (.ofNat 1)], .sy (.int 0 d1_2), 2), (.agg [.int 1 (.ofNat 3), .int 2 (.ofNat 1)], .sy (.int 0 d1_3), 3), (.agg [.int 1 (.ofNat 4), .int 2 (.ofNat 1)], .sy (.int 0 d1_4), 4)] 5)) .leaf))) (some (.blk false 81 3 [[.sl 1 0 5 (.rest 0), .sy (.prow 2 k0), .sy (.int 0 f.cnt)]])) (.node (.node (.node (.node .leaf (some (.map [(.agg [.int 1 (.ofNat 0), .int 2 (.ofNat 1)], .sy (.int 0 d2_0), 0), (.agg [.int 1 (.ofNat 1), .int 2 (.ofNat 1)], .sy (.int 0 d2_1), 1), (.agg [.int 1 (.ofNat 2), .int 2 (.ofNat 1)], .sy (.int 0 d2_2), 2), (.agg [.int 1 (.ofNat 3), .int 2 (.ofNat 1)], .sy (.int 0 d2_3), 3), (.agg [.int 1 (.ofNat 4), .int 2 (.ofNat 1)], .sy (.int 0 d2_4), 4)] 5)) .leaf) (some (.blk true 31 2 [[.int 1 (.ofNat 0), .int 2 (.ofNat 1)], [.int 1 (.ofNat 1), .int 2 (.ofNat 1)], [.int 1 (.ofNat 2), .int 2 (.ofNat 1)], [.int 1 (.ofNat 3), .int 2 (.ofNat 1)], [.int 1 (.ofNat 4), .int 2 (.ofNat 1)]])) .leaf) (some (.blk false 67 10 [[.int 1 (.ofNat 0), .int 3 (.ofNat 1), .sl 11 0 5 (.rest 0), .sy (.int 1 e1), .int 2 (.ofNat 1), .sy (.prow 12 k2), .int 0 (.ofNat 0), .sy (.int 0 f.s1.com), .sy (.bool f.s1.sh), .map 13]])) (.node (.node .leaf (some (.blk true 31 2 [[.int 1 (.ofNat 0), .int 2 (.ofNat 1)], [.int 1 (.ofNat 1), .int 2 (.ofNat 1)], [.int 1 (.ofNat 2), .int 2 (.ofNat 1)], [.int 1 (.ofNat 3), .int 2 (.ofNat 1)], [.int 1 (.ofNat 4), .int 2 (.ofNat 1)]])) .leaf) (some (.prow 45 18 Int f.s1.l encK)) .leaf)) (some (.prow 100 4 Told f.fly encT)) (.node (.node (.node .leaf (some (.prow 45 18 Int f.s3.l encK)) .leaf) (some (.map [(.agg [.int 1 (.ofNat 0), .int 2 (.ofNat 1)], .sy (.int 0 f.c0), 0), (.agg [.int 1 (.ofNat 1), .int 2 (.ofNat 1)], .sy (.int 0 f.c1), 1), (.agg [.int 1 (.ofNat 2), .int 2 (.ofNat 1)], .sy (.int 0 f.c2), 2), (.agg [.int 1 (.ofNat 3), .int 2 (.ofNat 1)], .sy (.int 0 f.c3), 3), (.agg [.int 1 (.ofNat 4), .int 2 (.ofNat 1)], .sy (.int 0 f.c4), 4)] 5)) .leaf) (some (.blk false 67 10 [[.int 1 (.ofNat 0), .int 3 (.ofNat 1), .sl 17 0 5 (.rest 0), .sy (.int 1 e3), .int 2 (.ofNat 1), .sy (.prow 18 k4), .int 0 (.ofNat 0), .sy (.int 0 f.s3.com), .sy (.bool f.s3.sh), .map 19]])) (.node (.node .leaf (some (.map [(.agg [.int 1 (.ofNat 0), .int 2 (.ofNat 1)], .sy (.int 0 d4_0), 0), (.agg [.int 1 (.ofNat 1), .int 2 (.ofNat 1)], .sy (.int 0 d4_1), 1), (.agg [.int 1 (.ofNat 2), .int 2 (.ofNat 1)], .sy (.int 0 d4_2), 2), (.agg [.int 1 (.ofNat 3), .int 2 (.ofNat 1)], .sy (.int 0 d4_3), 3), (.agg [.int 1 (.ofNat 4), .int 2 (.ofNat 1)], .sy (.int 0 d4_4), 4)] 5)) .leaf) (some (.blk true 31 2 [[.int 1 (.ofNat 0), .int 2 (.ofNat 1)], [.int 1 (.ofNat 1), .int 2 (.ofNat 1)], [.int 1 (.ofNat 2), .int 2 (.ofNat 1)], [.int 1 (.ofNat 3), .int 2 (.ofNat 1)], [.int 1 (.ofNat 4), .int 2 (.ofNat 1)]])) .leaf))))
noncomputable def Fd5 (f : F5) (k0 : Nat) (k1 : Nat) (k2 : Nat) (k3 : Nat) (k4 : Nat) (k5 : Nat) : T := (Fg5 f 1 0 0 0 0 0 2 0 0 0 0 0 3 0 0 0 0 0 4 0 0 0 0 0 k0 k1 k2 k3 k4 k5)
noncomputable def Fd5n (f : F5) : T := Fd5 f f.fly.length f.s0.l.length f.s1.l.length f.s2.l.length f.s3.l.length f.s4.l.length
noncomputable def Fb5 (f : F5) (k : Int) (x : Int) (nn : Int) (i : Int) (k0 : Nat) (k1 : Nat) (k2 : Nat) (k3 : Nat) (k4 : Nat) (k5 : Nat) : T := (.node (.node (.node (.node (.node .leaf (some (.blk true 31 2 [[.int 1 (.ofNat 0), .int 2 (.ofNat 1)], [.int 1 (.ofNat 1), .int 2 (.ofNat 1)], [.int 1 (.ofNat 2), .int 2 (.ofNat 1)], [.int 1 (.ofNat 3), .int 2 (.ofNat 1)], [.int 1 (.ofNat 4), .int 2 (.ofNat 1)]])) .leaf) (some (.blk false 67 10 [[.int 1 (.ofNat 0), .int 3 (.ofNat 1), .sl 18 0 5 (.rest 0), .sy (.int 1 3), .int 2 (.ofNat 1), .sy (.prow 19 k4), .int 0 (.ofNat 0), .sy (.int 0 f.s3.com), .sy (.bool f.s3.sh), .map 20]])) (.node .leaf (some (.map [(.agg [.int 1 (.ofNat 0), .int 2 (.ofNat 1)], .sy (.int 0 0), 0), (.agg [.int 1 (.ofNat 1), .int 2 (.ofNat 1)], .sy (.int 0 0), 1), (.agg [.int 1 (.ofNat 2), .int 2 (.ofNat 1)], .sy (.int 0 0), 2), (.agg [.int 1 (.ofNat 3), .int 2 (.ofNat 1)], .sy (.int 0 0), 3), (.agg [.int 1 (.ofNat 4), .int 2 (.ofNat 1)], .sy (.int 0 0), 4)] 5)) .leaf)) (some (.prow 100 4 Told f.fly encT)) (.node (.node .leaf (some (.prow 45 18 Int f.s3.l encK)) .leaf) (some (.map [(.agg [.int 1 (.ofNat 0), .int 2 (.ofNat 1)], .sy (.int 0 f.c0), 0), (.agg [.int 1 (.ofNat 1), .int 2 (.ofNat 1)], .sy (.int 0 f.c1), 1), (.agg [.int 1 (.ofNat 2), .int 2 (.ofNat 1)], .sy (.int 0 f.c2), 2), (.agg [.int 1 (.ofNat 3), .int 2 (.ofNat 1)], .sy (.int 0 f.c3), 3), (.agg [.int 1 (.ofNat 4), .int 2 (.ofNat 1)], .sy (.int 0 f.c4), 4)] 5)) .leaf)) (some (.blk false 74 4 [[.sy (.int 0 k), .sy (.int 0 x), .sy (.int 0 nn), .sy (.int 0 i)]])) (.node (.node (.node .leaf (some (.map [(.agg [.int 1 (.ofNat 0), .int 2 (.ofNat 1)], .sy (.int 0 0), 0), (.agg [.int 1 (.ofNat 1), .int 2 (.ofNat 1)], .sy (.int 0 0), 1), (.agg [.int 1 (.ofNat 2), .int 2 (.ofNat 1)], .sy (.int 0 0), 2), (.agg [.int 1 (.ofNat 3), .int 2 (.ofNat 1)], .sy (.int 0 0), 3), (.agg [.int 1 (.ofNat 4), .int 2 (.ofNat 1)], .sy (.int 0 0), 4)] 5)) .leaf) (some (.blk true 31 2 [[.int 1 (.ofNat 0), .int 2 (.ofNat 1)], [.int 1 (.ofNat 1), .int 2 (.ofNat 1)], [.int 1 (.ofNat 2), .int 2 (.ofNat 1)], [.int 1 (.ofNat 3), .int 2 (.ofNat 1)], [.int 1 (.ofNat 4), .int 2 (.ofNat 1)]])) .leaf) (some (.blk false 67 10 [[.int 1 (.ofNat 0), .int 3 (.ofNat 1), .sl 12 0 5 (.rest 0), .sy (.int 1 1), .int 2 (.ofNat 1), .sy (.prow 13 k2), .int 0 (.ofNat 0), .sy (.int 0 f.s1.com), .sy (.bool f.s1.sh), .map 14]])) (.node (.node .leaf (some (.blk true 31 2 [[.int 1 (.ofNat 0), .int 2 (.ofNat 1)], [.int 1 (.ofNat 1), .int 2 (.ofNat 1)], [.int 1 (.ofNat 2), .int 2 (.ofNat 1)], [.int 1 (.ofNat 3), .int 2 (.ofNat 1)], [.int 1 (.ofNat 4), .int 2 (.ofNat 1)]])) .leaf) (some (.prow 45 18 Int f.s1.l encK)) .leaf))) (some (.blk false 81 3 [[.sl 2 0 5 (.rest 0), .sy (.prow 3 k0), .sy (.int 0 f.cnt)]])) (.node (.node (.node (.node .leaf (some (.prow 45 18 Int f.s2.l encK)) .leaf) (some (.blk false 67 10 [[.int 1 (.ofNat 0), .int 3 (.ofNat 1), .sl 21 0 5 (.rest 0), .sy (.int 1 4), .int 2 (.ofNat 1), .sy (.prow 22 k5), .int 0 (.ofNat 0), .sy (.int 0 f.s4.com), .sy (.bool f.s4.sh), .map 23]])) .leaf) (some (.blk false 67 10 [[.int 1 (.ofNat 0), .int 3 (.ofNat 1), .sl 9 0 5 (.rest 0), .int 1 (.ofNat 0), .int 2 (.ofNat 1), .sy (.prow 10 k1), .int 0 (.ofNat 0), .sy (.int 0 f.s0.com), .sy (.bool f.s0.sh), .map 11]])) (.node (.node .leaf (some (.map [(.agg [.int 1 (.ofNat 0), .int 2 (.ofNat 1)], .sy (.int 0 0), 0), (.agg [.int 1 (.ofNat 1), .int 2 (.ofNat 1)], .sy (.int 0 0), 1), (.agg [.int 1 (.ofNat 2), .int 2 (.ofNat 1)], .sy (.int 0 0), 2), (.agg [.int 1 (.ofNat 3), .int 2 (.ofNat 1)], .sy (.int 0 0), 3), (.agg [.int 1 (.ofNat 4), .int 2 (.ofNat 1)], .sy (.int 0 0), 4)] 5)) .leaf) (some (.blk true 31 2 [[.int 1 (.ofNat 0), .int 2 (.ofNat 1)], [.int 1 (.ofNat 1), .int 2 (.ofNat 1)], [.int 1 (.ofNat 2), .int 2 (.ofNat 1)], [.int 1 (.ofNat 3), .int 2 (.ofNat 1)], [.int 1 (.ofNat 4), .int 2 (.ofNat 1)]])) .leaf)) (some (.blk true 22 1 [[.ptr 4 0], [.ptr 5 0], [.ptr 6 0], [.ptr 7 0], [.ptr 8 0]])) (.node (.node (.node .leaf (some (.blk true 31 2 [[.int 1 (.ofNat 0), .int 2 (.ofNat 1)], [.int 1 (.ofNat 1), .int 2 (.ofNat 1)], [.int 1 (.ofNat 2), .int 2 (.ofNat 1)], [.int 1 (.ofNat 3), .int 2 (.ofNat 1)], [.int 1 (.ofNat 4), .int 2 (.ofNat 1)]])) .leaf) (some (.prow 45 18 Int f.s0.l encK)) .leaf) (some (.blk false 67 10 [[.int 1 (.ofNat 0), .int 3 (.ofNat 1), .sl 15 0 5 (.rest 0), .sy (.int 1 2), .int 2 (.ofNat 1), .sy (.prow 16 k3), .int 0 (.ofNat 0), .sy (.int 0 f.s2.com), .sy (.bool f.s2.sh), .map 17]])) (.node (.node .leaf (some (.prow 45 18 Int f.s4.l encK)) .leaf) (some (.map [(.agg [.int 1 (.ofNat 0), .int 2 (.ofNat 1)], .sy (.int 0 0), 0), (.agg [.int 1 (.ofNat 1), .int 2 (.ofNat 1)], .sy (.int 0 0), 1), (.agg [.int 1 (.ofNat 2), .int 2 (.ofNat 1)], .sy (.int 0 0), 2), (.agg [.int 1 (.ofNat 3), .int 2 (.ofNat 1)], .sy (.int 0 0), 3), (.agg [.int 1 (.ofNat 4), .int 2 (.ofNat 1)], .sy (.int 0 0), 4)] 5)) .leaf))))
noncomputable def Fb5n (f : F5) (k : Int) (x : Int) (nn : Int) (i : Int) : T := Fb5 f k x nn i f.fly.length f.s0.l.length f.s1.l.length f.s2.l.length f.s3.l.length f.s4.l.length
def ft_right1 : XF := .mk 75 (.one 2) (.seq (g_ 1 [p_ 0 2 (.mv (.c (.bool false)))]) (.seq (.aft (g_ 8 [p_ 0 6 (m_ 0), p_ 1 7 (n_ 6), p_ 2 8 (f_ 0 7), r_ 3 9 (l_ 8), p_ 4 10 (.ixs 1 (.t 9) (i_ 0)), r_ 5 11 (l_ 10), c_ 6 12 23 [.t 11], p_ 7 3 (m_ 12)]) [(0, [.frz 3])]) (.seq (.seq (g_ 1 [p_ 0 4 (.mv (i_ 0))]) (.block 2 (.loop [0, 2, 3, 4, 5, 13, 14, 15, 16, 17, 18, 19, 20, 21, 22, 23, 24, 25, 26, 27, 28, 29, 30, 31, 32, 33, 34, 35, 36, 37, 38, 39, 40, 41, 42, 43, 44, 45, 46, 47, 48, 49, 50, 51, 52, 53, 54, 55, 56, 57, 58, 59, 60, 61, 62, 63, 64, 65, 66, 67, 68, 69, 70, 71, 72, 73, 74] (.seq (.seq (g_ 7 [p_ 0 13 (m_ 4), p_ 1 14 (m_ 0), p_ 2 15 (n_ 14), p_ 3 16 (f_ 0 15), r_ 4 17 (l_ 16), p_ 5 18 (k_ 17), p_ 6 19 (.bin 3 0 (.t 13) (.t 18))]) (.cond (.t 19) .skip (.exit 2))) (.seq (.block 3 (.seq (.aft (g_ 9 [p_ 0 22 (m_ 0), p_ 1 23 (n_ 22), p_ 2 24 (f_ 0 23), r_ 3 25 (l_ 24), p_ 4 26 (m_ 4), p_ 5 27 (.ixs 1 (.t 25) (.t 26)), r_ 6 28 (l_ 27), c_ 7 29 23 [.t 28], p_ 8 5 (m_ 29)]) [(0, [.frz 5])]) (.seq (h_ 45 [p_ 0 30 (m_ 5), p_ 1 31 (k_ 30), p_ 2 32 (m_ 3), p_ 3 33 (k_ 32), p_ 4 34 (.bin 3 2 (.t 31) (.t 33)), p_ 5 35 (m_ 34), pg_ 6 36 35 false (m_ 5), pg_ 7 37 35 false (m_ 3), pg_ 8 38 35 false (m_ 5), pg_ 9 39 35 false (k_ 38), rg_ 10 40 35 false (.sls 18 (.t 37) none (some (.t 39)) none), cg_ 11 41 35 false 42 [.t 36, .t 40], pg_ 12 42 35 false (.un 0 (.t 41)), p_ 13 43 (.pick (.t 35) (.c (.bool true)) (.t 42)), p_ 14 44 (m_ 43), pg_ 15 45 44 false (m_ 0), pg_ 16 46 44 false (n_ 45), pg_ 17 47 44 false (f_ 0 46), rg_ 18 48 44 false (l_ 47), pg_ 19 49 44 false (m_ 4), pg_ 20 50 44 false (.ixs 1 (.t 48) (.t 49)), rg_ 21 51 44 false (l_ 50), pg_ 23 53 44 false (m_ 5), pg_ 24 54 44 false (k_ 53), cg_ 22 52 44 false 14 [.t 51], pg_ 25 55 44 false (.bin 3 2 (.t 52) (.t 54)), p_ 26 56 (.pick (.t 44) (.c (.bool true)) (.t 55)), p_ 27 57 (m_ 56), pg_ 28 58 57 false (m_ 0), pg_ 29 59 57 false (n_ 58), pg_ 30 60 57 false (f_ 0 59), rg_ 31 61 57 false (l_ 60), pg_ 32 62 57 false (m_ 4), pg_ 33 63 57 false (.ixs 1 (.t 61) (.t 62)), rg_ 34 64 57 false (l_ 63), pg_ 36 66 57 false (m_ 0), pg_ 37 67 57 false (n_ 66), pg_ 38 68 57 false (f_ 0 67), rg_ 39 69 57 false (l_ 68), pg_ 40 70 57 false (.ixs 1 (.t 69) (i_ 0)), rg_ 41 71 57 false (l_ 70), cg_ 35 65 57 false 14 [.t 64], ag_ 39 69 57 false (l_ 68), ag_ 41 71 57 false (l_ 70), cg_ 42 72 57 false 14 [.t 71], pg_ 43 73 57 false (.bin 3 2 (.t 65) (.t 72)), p_ 44 74 (.pick (.t 57) (.c (.bool true)) (.t 73))]) (.cond (.t 74) (.seq (g_ 1 [p_ 0 2 (.mv (.c (.bool false)))]) .ret) .skip)))) (g_ 3 [p_ 0 20 (m_ 4), p_ 1 21 (.bin 0 0 (.t 20) (i_ 1)), p_ 2 4 (m_ 21)])))))) (.seq (g_ 1 [p_ 0 2 (.mv (.c (.bool true)))]) .ret))))
theorem ft_right1_ok : chkF Try.prog 29 ft_right1 = true := by kernel_rfl
structure A_right1 where
  f : F1
noncomputable def I_right1 (p : A_right1) : IE := ([.ptr 0 0], (Fd1n p.f), 7)
noncomputable def out_right1 (p : A_right1) (K : KE) : Bool := K (.bool true) (Fd1n p.f) 7
def pre_right1 (p : A_right1) : Prop := FI1 p.f
theorem vf_right1 (p : A_right1) (K : KE) (hpre : pre_right1 p) (hK : out_right1 p K = true) : (funE 1 (cfT nat_eqf) noLp 600 ft_right1 (I_right1 p).1 (I_right1 p).2.1 (I_right1 p).2.2 K) = true := by
  refine Eq.trans (b := (exB fun p1 : A_clones_prow => must (prB (([.sy (.prow 0 p.f.s0.l.length)], (.node .leaf (some (.prow 45 18 Int p.f.s0.l encK)) .leaf), 1) = I_clones_prow p1)) (must (prB (pre_clones_prow p1)) (allB fun r1 : R_clones_prow => ifB (prB (po_clones_prow p1 r1)) (must (prB (r1.o.length = r1.o.length)) (must (prB (r1.o.length = r1.o.length)) (allB fun h1 : Value => exB fun p2 : A_clones_prow => must (prB (([.sy (.prow 0 p.f.s0.l.length)], (.node .leaf (some (.prow 45 18 Int p1.l encK)) .leaf), 1) = I_clones_prow p2)) (must (prB (pre_clones_prow p2)) (allB fun r2 : R_clones_prow => ifB (prB (po_clones_prow p2 r2)) (must (prB (r2.o.length = r2.o.length)) (must (prB (r2.o.length = r2.o.length)) (allB fun h2 : Value => ifB (prB ((r1.o.length : Int) < (r2.o.length : Int))) (K (.bool false) (Fd1 ({ p.f with s0 := ({ p.f.s0 with l := p2.l } : Rl) } : F1) p.f.fly.length p.f.s0.l.length) 7) (must (prB (0 ≤ (0 : Int) ∧ (0 : Int) ≤ (r2.o.length : Int) ∧ (r2.o.length : Int) ≤ (r1.o.length : Int))) (exB fun p3 : A_eqf => must (prB (([.sy (.imm h2 18 Int r2.o encK), .sy (.imm (hsl h1 18 0 r2.o.length) 18 Int ((r1.o.drop 0).take (r2.o.length - 0)) encK), .fn 62 []], .leaf, 0) = I_eqf p3)) (must (prB (pre_eqf p3)) (allB fun r3 : R_eqf => ifB (prB (po_eqf p3 r3)) (ifB (prB (¬ r3.q)) (K (.bool false) (Fd1 ({ p.f with s0 := ({ p.f.s0 with l := p2.l } : Rl) } : F1) p.f.fly.length p.f.s0.l.length) 7) (ifB (prB ((r2.o.length : Int) < p.f.s0.com)) (K (.bool false) (Fd1 ({ p.f with s0 := ({ p.f.s0 with l := p2.l } : Rl) } : F1) p.f.fly.length p.f.s0.l.length) 7) (ifB (prB (p.f.s0.com < p.f.s0.com)) (K (.bool false) (Fd1 ({ p.f with s0 := ({ p.f.s0 with l := p2.l } : Rl) } : F1) p.f.fly.length p.f.s0.l.length) 7) (K (.bool true) (Fd1 ({ p.f with s0 := ({ p.f.s0 with l := p2.l } : Rl) } : F1) p.f.fly.length p.f.s0.l.length) 7)))) true))))))) true))))) true)))) (by kernel_rfl) ?_
  dsimp only [pre_right1] at hpre
  have hinv : FInv p.f.s0 _ _ _ := hpre
  have g : p.f.s0.l.length ≤ 400 := hinv.short
  obtain ⟨u0, v0, w0, z0⟩ : RightP p.f.s0 p.f.s0 := hinv.right (j := 0) rfl
  refine callPR (⟨p.f.s0.l⟩ : A_clones_prow) rfl (by (try dsimp only [pre_clones_prow]) ; first | omega | (simp only [List.length_take, List.length_drop] ; omega)) fun r1 hi1 => ?_
  dsimp only [po_clones_prow] at hi1
  refine mustP (rfl) ?_
  refine mustP (rfl) ?_
  refine allB_mk (fun h1 => ?_)
  refine callPR (⟨p.f.s0.l⟩ : A_clones_prow) rfl (by (try dsimp only [pre_clones_prow]) ; first | omega | (simp only [List.length_take, List.length_drop] ; omega)) fun r2 hi2 => ?_
  dsimp only [po_clones_prow] at hi2
  refine mustP (rfl) ?_
  refine mustP (rfl) ?_
  refine allB_mk (fun h2 => ?_)
  refine ifP (fun hc3 => ?_) (fun hc3 => ?_)
  first | (exfalso ; omega) | (exfalso ; exact dead_right (by assumption) (by assumption) (by assumption) (by assumption) (by assumption))
  refine mustP (by first | omega | (simp only [List.length_take, List.length_drop] ; omega)) ?_
  refine callPR (⟨h2, r2.o, hsl h1 18 0 r2.o.length, (r1.o.drop 0).take (r2.o.length - 0)⟩ : A_eqf) rfl (by (try dsimp only [pre_eqf]) ; first | omega | (simp only [List.length_take, List.length_drop] ; omega)) fun r3 hi4 => ?_
  dsimp only [po_eqf] at hi4
  refine ifP (fun hc5 => ?_) (fun hc5 => ?_)
  first | (exfalso ; omega) | (exfalso ; exact dead_right (by assumption) (by assumption) (by assumption) (by assumption) (by assumption))
  refine ifP (fun hc6 => ?_) (fun hc6 => ?_)
  first | (exfalso ; omega) | (exfalso ; exact dead_right (by assumption) (by assumption) (by assumption) (by assumption) (by assumption))
  refine ifP (fun hc7 => ?_) (fun hc7 => ?_)
  first | (exfalso ; omega) | (exfalso ; exact dead_right (by assumption) (by assumption) (by assumption) (by assumption) (by assumption))
  exact hK
noncomputable def ec_right1 : SpecE := tstE (elB 1 1) (esOf I_right1 (spP pre_right1 out_right1)) (fun _ _ _ _ => false)
theorem nc_right1 : NatE Try.prog 29 1 ec_right1 := tstE_ok (natE_pl (f := 29) (k := 1) (cfT_ok nat_eqf_ok) ft_right1_ok (by rfl) (by rfl) vf_right1) natE_no
noncomputable def nat_right1 := natC nat_eqf 1 ec_right1 29 [(0, 4)]
theorem nat_right1_ok : NatsOk Try.prog nat_right1 := natC_ok nc_right1 nat_eqf_ok
def ft_right2 : XF := ft_right1
theorem ft_right2_ok : chkF Try.prog 29 ft_right2 = true := ft_right1_ok
structure A_right2 where
  f : F2
noncomputable def I_right2 (p : A_right2) : IE := ([.ptr 0 0], (Fd2n p.f), 11)
noncomputable def out_right2 (p : A_right2) (K : KE) : Bool := K (.bool true) (Fd2n p.f) 11
def pre_right2 (p : A_right2) : Prop := FI2 p.f
theorem vf_right2 (p : A_right2) (K : KE) (hpre : pre_right2 p) (hK : out_right2 p K = true) : (funE 1 (cfT nat_right1) noLp 600 ft_right2 (I_right2 p).1 (I_right2 p).2.1 (I_right2 p).2.2 K) = true := by
  refine Eq.trans (b := (exB fun p1 : A_clones_prow => must (prB (([.sy (.prow 0 p.f.s0.l.length)], (.node .leaf (some (.prow 45 18 Int p.f.s0.l encK)) .leaf), 1) = I_clones_prow p1)) (must (prB (pre_clones_prow p1)) (allB fun r1 : R_clones_prow => ifB (prB (po_clones_prow p1 r1)) (must (prB (r1.o.length = r1.o.length)) (must (prB (r1.o.length = r1.o.length)) (allB fun h1 : Value => exB fun p2 : A_clones_prow => must (prB (([.sy (.prow 0 p.f.s0.l.length)], (.node .leaf (some (.prow 45 18 Int p1.l encK)) .leaf), 1) = I_clones_prow p2)) (must (prB (pre_clones_prow p2)) (allB fun r2 : R_clones_prow => ifB (prB (po_clones_prow p2 r2)) (must (prB (r2.o.length = r2.o.length)) (must (prB (r2.o.length = r2.o.length)) (allB fun h2 : Value => ifB (prB ((r1.o.length : Int) < (r2.o.length : Int))) (K (.bool false) (Fd2 ({ p.f with s0 := ({ p.f.s0 with l := p2.l } : Rl) } : F2) p.f.fly.length p.f.s0.l.length p.f.s1.l.length) 11) (must (prB (0 ≤ (0 : Int) ∧ (0 : Int) ≤ (r2.o.length : Int) ∧ (r2.o.length : Int) ≤ (r1.o.length : Int))) (exB fun p3 : A_eqf => must (prB (([.sy (.imm h2 18 Int r2.o encK), .sy (.imm (hsl h1 18 0 r2.o.length) 18 Int ((r1.o.drop 0).take (r2.o.length - 0)) encK), .fn 62 []], .leaf, 0) = I_eqf p3)) (must (prB (pre_eqf p3)) (allB fun r3 : R_eqf => ifB (prB (po_eqf p3 r3)) (ifB (prB (¬ r3.q)) (K (.bool false) (Fd2 ({ p.f with s0 := ({ p.f.s0 with l := p2.l } : Rl) } : F2) p.f.fly.length p.f.s0.l.length p.f.s1.l.length) 11) (ifB (prB ((r2.o.length : Int) < p.f.s0.com)) (K (.bool false) (Fd2 ({ p.f with s0 := ({ p.f.s0 with l := p2.l } : Rl) } : F2) p.f.fly.length p.f.s0.l.length p.f.s1.l.length) 11) (ifB (prB (p.f.s0.com < p.f.s0.com)) (K (.bool false) (Fd2 ({ p.f with s0 := ({ p.f.s0 with l := p2.l } : Rl) } : F2) p.f.fly.length p.f.s0.l.length p.f.s1.l.length) 11) (exB fun p4 : A_clones_prow => must (prB (([.sy (.prow 0 p.f.s1.l.length)], (.node .leaf (some (.prow 45 18 Int p.f.s1.l encK)) .leaf), 1) = I_clones_prow p4)) (must (prB (pre_clones_prow p4)) (allB fun r4 : R_clones_prow => ifB (prB (po_clones_prow p4 r4)) (must (prB (r4.o.length = r4.o.length)) (must (prB (r4.o.length = r4.o.length)) (allB fun h3 : Value => ifB (prB ((r1.o.length : Int) < (r4.o.length : Int))) (K (.bool false) (Fd2 ({ p.f with s0 := ({ p.f.s0 with l := p2.l } : Rl), s1 := ({ p.f.s1 with l := p4.l } : Rl) } : F2) p.f.fly.length p.f.s0.l.length p.f.s1.l.length) 11) (must (prB (0 ≤ (0 : Int) ∧ (0 : Int) ≤ (r4.o.length : Int) ∧ (r4.o.length : Int) ≤ (r1.o.length : Int))) (exB fun p5 : A_eqf => must (prB (([.sy (.imm h3 18 Int r4.o encK), .sy (.imm (hsl h1 18 0 r4.o.length) 18 Int ((r1.o.drop 0).take (r4.o.length - 0)) encK), .fn 62 []], .leaf, 0) = I_eqf p5)) (must (prB (pre_eqf p5)) (allB fun r5 : R_eqf => ifB (prB (po_eqf p5 r5)) (ifB (prB (¬ r5.q)) (K (.bool false) (Fd2 ({ p.f with s0 := ({ p.f.s0 with l := p2.l } : Rl), s1 := ({ p.f.s1 with l := p4.l } : Rl) } : F2) p.f.fly.length p.f.s0.l.length p.f.s1.l.length) 11) (ifB (prB ((r4.o.length : Int) < p.f.s1.com)) (K (.bool false) (Fd2 ({ p.f with s0 := ({ p.f.s0 with l := p2.l } : Rl), s1 := ({ p.f.s1 with l := p4.l } : Rl) } : F2) p.f.fly.length p.f.s0.l.length p.f.s1.l.length) 11) (ifB (prB (p.f.s0.com < p.f.s1.com)) (K (.bool false) (Fd2 ({ p.f with s0 := ({ p.f.s0 with l := p2.l } : Rl), s1 := ({ p.f.s1 with l := p4.l } : Rl) } : F2) p.f.fly.length p.f.s0.l.length p.f.s1.l.length) 11) (K (.bool true) (Fd2 ({ p.f with s0 := ({ p.f.s0 with l := p2.l } : Rl), s1 := ({ p.f.s1 with l := p4.l } : Rl) } : F2) p.f.fly.length p.f.s0.l.length p.f.s1.l.length) 11)))) true))))))) true)))))) true))))))) true))))) true)))) (by kernel_rfl) ?_
  dsimp only [pre_right2] at hpre
  have hinv : FInv p.f.s0 _ _ _ := hpre
  have g : p.f.s0.l.length ≤ 400 := hinv.short
  obtain ⟨u0, v0, w0, z0⟩ : RightP p.f.s0 p.f.s0 := hinv.right (j := 0) rfl
  obtain ⟨u1, v1, w1, z1⟩ : RightP p.f.s0 p.f.s1 := hinv.right (j := 1) rfl
  refine callPR (⟨p.f.s0.l⟩ : A_clones_prow) rfl (by (try dsimp only [pre_clones_prow]) ; first | omega | (simp only [List.length_take, List.length_drop] ; omega)) fun r1 hi1 => ?_
  dsimp only [po_clones_prow] at hi1
  refine mustP (rfl) ?_
  refine mustP (rfl) ?_
  refine allB_mk (fun h1 => ?_)
  refine callPR (⟨p.f.s0.l⟩ : A_clones_prow) rfl (by (try dsimp only [pre_clones_prow]) ; first | omega | (simp only [List.length_take, List.length_drop] ; omega)) fun r2 hi2 => ?_
  dsimp only [po_clones_prow] at hi2
  refine mustP (rfl) ?_
  refine mustP (rfl) ?_
  refine allB_mk (fun h2 => ?_)
  refine ifP (fun hc3 => ?_) (fun hc3 => ?_)
  first | (exfalso ; omega) | (exfalso ; exact dead_right (by assumption) (by assumption) (by assumption) (by assumption) (by assumption))
  refine mustP (by first | omega | (simp only [List.length_take, List.length_drop] ; omega)) ?_
  refine callPR (⟨h2, r2.o, hsl h1 18 0 r2.o.length, (r1.o.drop 0).take (r2.o.length - 0)⟩ : A_eqf) rfl (by (try dsimp only [pre_eqf]) ; first | omega | (simp only [List.length_take, List.length_drop] ; omega)) fun r3 hi4 => ?_
  dsimp only [po_eqf] at hi4
  refine ifP (fun hc5 => ?_) (fun hc5 => ?_)
  first | (exfalso ; omega) | (exfalso ; exact dead_right (by assumption) (by assumption) (by assumption) (by assumption) (by assumption))
  refine ifP (fun hc6 => ?_) (fun hc6 => ?_)
  first | (exfalso ; omega) | (exfalso ; exact dead_right (by assumption) (by assumption) (by assumption) (by assumption) (by assumption))
  refine ifP (fun hc7 => ?_) (fun hc7 => ?_)
  first | (exfalso ; omega) | (exfalso ; exact dead_right (by assumption) (by assumption) (by assumption) (by assumption) (by assumption))
  refine callPR (⟨p.f.s1.l⟩ : A_clones_prow) rfl (by (try dsimp only [pre_clones_prow]) ; first | omega | (simp only [List.length_take, List.length_drop] ; omega)) fun r4 hi8 => ?_
  dsimp only [po_clones_prow] at hi8
  refine mustP (rfl) ?_
  refine mustP (rfl) ?_
  refine allB_mk (fun h3 => ?_)
  refine ifP (fun hc9 => ?_) (fun hc9 => ?_)
  first | (exfalso ; omega) | (exfalso ; exact dead_right (by assumption) (by assumption) (by assumption) (by assumption) (by assumption))
  refine mustP (by first | omega | (simp only [List.length_take, List.length_drop] ; omega)) ?_
  refine callPR (⟨h3, r4.o, hsl h1 18 0 r4.o.length, (r1.o.drop 0).take (r4.o.length - 0)⟩ : A_eqf) rfl (by (try dsimp only [pre_eqf]) ; first | omega | (simp only [List.length_take, List.length_drop] ; omega)) fun r5 hi10 => ?_
  dsimp only [po_eqf] at hi10
  refine ifP (fun hc11 => ?_) (fun hc11 => ?_)
  first | (exfalso ; omega) | (exfalso ; exact dead_right (by assumption) (by assumption) (by assumption) (by assumption) (by assumption))
  refine ifP (fun hc12 => ?_) (fun hc12 => ?_)
  first | (exfalso ; omega) | (exfalso ; exact dead_right (by assumption) (by assumption) (by assumption) (by assumption) (by assumption))
  refine ifP (fun hc13 => ?_) (fun hc13 => ?_)
  first | (exfalso ; omega) | (exfalso ; exact dead_right (by assumption) (by assumption) (by assumption) (by assumption) (by assumption))
  exact hK
noncomputable def ec_right2 : SpecE := tstE (elB 1 2) (esOf I_right2 (spP pre_right2 out_right2)) ec_right1
theorem nc_right2 : NatE Try.prog 29 1 ec_right2 := tstE_ok (natE_pl (f := 29) (k := 1) (cfT_ok nat_right1_ok) ft_right2_ok (by rfl) (by rfl) vf_right2) nc_right1
noncomputable def nat_right2 := natC nat_right1 1 ec_right2 29 [(0, 4)]
theorem nat_right2_ok : NatsOk Try.prog nat_right2 := natC_ok nc_right2 nat_right1_ok
def ft_right3 : XF := ft_right1
theorem ft_right3_ok : chkF Try.prog 29 ft_right3 = true := ft_right1_ok
structure A_right3 where
  f : F3
noncomputable def I_right3 (p : A_right3) : IE := ([.ptr 0 0], (Fd3n p.f), 15)
noncomputable def out_right3 (p : A_right3) (K : KE) : Bool := K (.bool true) (Fd3n p.f) 15
def pre_right3 (p : A_right3) : Prop := FI3 p.f
theorem vf_right3 (p : A_right3) (K : KE) (hpre : pre_right3 p) (hK : out_right3 p K = true) : (funE 1 (cfT nat_right2) noLp 600 ft_right3 (I_right3 p).1 (I_right3 p).2.1 (I_right3 p).2.2 K) = true := by
  refine Eq.trans (b := (exB fun p1 : A_clones_prow => must (prB (([.sy (.prow 0 p.f.s0.l.length)], (.node .leaf (some (.prow 45 18 Int p.f.s0.l encK)) .leaf), 1) = I_clones_prow p1)) (must (prB (pre_clones_prow p1)) (allB fun r1 : R_clones_prow => ifB (prB (po_clones_prow p1 r1)) (must (prB (r1.o.length = r1.o.length)) (must (prB (r1.o.length = r1.o.length)) (allB fun h1 : Value => exB fun p2 : A_clones_prow => must (prB (([.sy (.prow 0 p.f.s0.l.length)], (.node .leaf (some (.prow 45 18 Int p1.l encK)) .leaf), 1) = I_clones_prow p2)) (must (prB (pre_clones_prow p2)) (allB fun r2 : R_clones_prow => ifB (prB (po_clones_prow p2 r2)) (must (prB (r2.o.length = r2.o.length)) (must (prB (r2.o.length = r2.o.length)) (allB fun h2 : Value => ifB (prB ((r1.o.length : Int) < (r2.o.length : Int))) (K (.bool false) (Fd3 ({ p.f with s0 := ({ p.f.s0 with l := p2.l } : Rl) } : F3) p.f.fly.length p.f.s0.l.length p.f.s1.l.length p.f.s2.l.length) 15) (must (prB (0 ≤ (0 : Int) ∧ (0 : Int) ≤ (r2.o.length : Int) ∧ (r2.o.length : Int) ≤ (r1.o.length : Int))) (exB fun p3 : A_eqf => must (prB (([.sy (.imm h2 18 Int r2.o encK), .sy (.imm (hsl h1 18 0 r2.o.length) 18 Int ((r1.o.drop 0).take (r2.o.length - 0)) encK), .fn 62 []], .leaf, 0) = I_eqf p3)) (must (prB (pre_eqf p3)) (allB fun r3 : R_eqf => ifB (prB (po_eqf p3 r3)) (ifB (prB (¬ r3.q)) (K (.bool false) (Fd3 ({ p.f with s0 := ({ p.f.s0 with l := p2.l } : Rl) } : F3) p.f.fly.length p.f.s0.l.length p.f.s1.l.length p.f.s2.l.length) 15) (ifB (prB ((r2.o.length : Int) < p.f.s0.com)) (K (.bool false) (Fd3 ({ p.f with s0 := ({ p.f.s0 with l := p2.l } : Rl) } : F3) p.f.fly.length p.f.s0.l.length p.f.s1.l.length p.f.s2.l.length) 15) (ifB (prB (p.f.s0.com < p.f.s0.com)) (K (.bool false) (Fd3 ({ p.f with s0 := ({ p.f.s0 with l := p2.l } : Rl) } : F3) p.f.fly.length p.f.s0.l.length p.f.s1.l.length p.f.s2.l.length) 15) (exB fun p4 : A_clones_prow => must (prB (([.sy (.prow 0 p.f.s1.l.length)], (.node .leaf (some (.prow 45 18 Int p.f.s1.l encK)) .leaf), 1) = I_clones_prow p4)) (must (prB (pre_clones_prow p4)) (allB fun r4 : R_clones_prow => ifB (prB (po_clones_prow p4 r4)) (must (prB (r4.o.length = r4.o.length)) (must (prB (r4.o.length = r4.o.length)) (allB fun h3 : Value => ifB (prB ((r1.o.length : Int) < (r4.o.length : Int))) (K (.bool false) (Fd3 ({ p.f with s0 := ({ p.f.s0 with l := p2.l } : Rl), s1 := ({ p.f.s1 with l := p4.l } : Rl) } : F3) p.f.fly.length p.f.s0.l.length p.f.s1.l.length p.f.s2.l.length) 15) (must (prB (0 ≤ (0 : Int) ∧ (0 : Int) ≤ (r4.o.length : Int) ∧ (r4.o.length : Int) ≤ (r1.o.length : Int))) (exB fun p5 : A_eqf => must (prB (([.sy (.imm h3 18 Int r4.o encK), .sy (.imm (hsl h1 18 0 r4.o.length) 18 Int ((r1.o.drop 0).take (r4.o.length - 0)) encK), .fn 62 []], .leaf, 0) = I_eqf p5)) (must (prB (pre_eqf p5)) (allB fun r5 : R_eqf => ifB (prB (po_eqf p5 r5)) (ifB (prB (¬ r5.q)) (K (.bool false) (Fd3 ({ p.f with s0 := ({ p.f.s0 with l := p2.l } : Rl), s1 := ({ p.f.s1 with l := p4.l } : Rl) } : F3) p.f.fly.length p.f.s0.l.length p.f.s1.l.length p.f.s2.l.length) 15) (ifB (prB ((r4.o.length : Int) < p.f.s1.com)) (K (.bool false) (Fd3 ({ p.f with s0 := ({ p.f.s0 with l := p2.l } : Rl), s1 := ({ p.f.s1 with l := p4.l } : Rl) } : F3) p.f.fly.length p.f.s0.l.length p.f.s1.l.length p.f.s2.l.length) 15) (ifB (prB (p.f.s0.com < p.f.s1.com)) (K (.bool false) (Fd3 ({ p.f with s0 := ({ p.f.s0 with l := p2.l } : Rl), s1 := ({ p.f.s1 with l := p4.l } : Rl) } : F3) p.f.fly.length p.f.s0.l.length p.f.s1.l.length p.f.s2.l.length) 15) (exB fun p6 : A_clones_prow => must (prB (([.sy (.prow 0 p.f.s2.l.length)], (.node .leaf (some (.prow 45 18 Int p.f.s2.l encK)) .leaf), 1) = I_clones_prow p6)) (must (prB (pre_clones_prow p6)) (allB fun r6 : R_clones_prow => ifB (prB (po_clones_prow p6 r6)) (must (prB (r6.o.length = r6.o.length)) (must (prB (r6.o.length = r6.o.length)) (allB fun h4 : Value => ifB (prB ((r1.o.length : Int) < (r6.o.length : Int))) (K (.bool false) (Fd3 ({ p.f with s0 := ({ p.f.s0 with l := p2.l } : Rl), s1 := ({ p.f.s1 with l := p4.l } : Rl), s2 := ({ p.f.s2 with l := p6.l } : Rl) } : F3) p.f.fly.length p.f.s0.l.length p.f.s1.l.length p.f.s2.l.length) 15) (must (prB (0 ≤ (0 : Int) ∧ (0 : Int) ≤ (r6.o.length : Int) ∧ (r6.o.length : Int) ≤ (r1.o.length : Int))) (exB fun p7 : A_eqf => must (prB (([.sy (.imm h4 18 Int r6.o encK), .sy (.imm (hsl h1 18 0 r6.o.length) 18 Int ((r1.o.drop 0).take (r6.o.length - 0)) encK), .fn 62 []], .leaf, 0) = I_eqf p7)) (must (prB (pre_eqf p7)) (allB fun r7 : R_eqf => ifB (prB (po_eqf p7 r7)) (ifB (prB (¬ r7.q)) (K (.bool false) (Fd3 ({ p.f with s0 := ({ p.f.s0 with l := p2.l } : Rl), s1 := ({ p.f.s1 with l := p4.l } : Rl), s2 := ({ p.f.s2 with l := p6.l } : Rl) } : F3) p.f.fly.length p.f.s0.l.length p.f.s1.l.length p.f.s2.l.length) 15) (ifB (prB ((r6.o.length : Int) < p.f.s2.com)) (K (.bool false) (Fd3 ({ p.f with s0 := ({ p.f.s0 with l := p2.l } : Rl), s1 := ({ p.f.s1 with l := p4.l } : Rl), s2 := ({ p.f.s2 with l := p6.l } : Rl) } : F3) p.f.fly.length p.f.s0.l.length p.f.s1.l.length p.f.s2.l.length) 15) (ifB (prB (p.f.s0.com < p.f.s2.com)) (K (.bool false) (Fd3 ({ p.f with s0 := ({ p.f.s0 with l := p2.l } : Rl), s1 := ({ p.f.s1 with l := p4.l } : Rl), s2 := ({ p.f.s2 with l := p6.l } : Rl) } : F3) p.f.fly.length p.f.s0.l.length p.f.s1.l.length p.f.s2.l.length) 15) (K (.bool true) (Fd3 ({ p.f with s0 := ({ p.f.s0 with l := p2.l } : Rl), s1 := ({ p.f.s1 with l := p4.l } : Rl), s2 := ({ p.f.s2 with l := p6.l } : Rl) } : F3) p.f.fly.length p.f.s0.l.length p.f.s1.l.length p.f.s2.l.length) 15)))) true))))))) true)))))) true))))))) true)))))) true))))))) true))))) true)))) (by kernel_rfl) ?_
  dsimp only [pre_right3] at hpre
  have hinv : FInv p.f.s0 _ _ _ := hpre
  have g : p.f.s0.l.length ≤ 400 := hinv.short
  obtain ⟨u0, v0, w0, z0⟩ : RightP p.f.s0 p.f.s0 := hinv.right (j := 0) rfl
  obtain ⟨u1, v1, w1, z1⟩ : RightP p.f.s0 p.f.s1 := hinv.right (j := 1) rfl
  obtain ⟨u2, v2, w2, z2⟩ : RightP p.f.s0 p.f.s2 := hinv.right (j := 2) rfl
  refine callPR (⟨p.f.s0.l⟩ : A_clones_prow) rfl (by (try dsimp only [pre_clones_prow]) ; first | omega | (simp only [List.length_take, List.length_drop] ; omega)) fun r1 hi1 => ?_
  dsimp only [po_clones_prow] at hi1
  refine mustP (rfl) ?_
  refine mustP (rfl) ?_
  refine allB_mk (fun h1 => ?_)
  refine callPR (⟨p.f.s0.l⟩ : A_clones_prow) rfl (by (try dsimp only [pre_clones_prow]) ; first | omega | (simp only [List.length_take, List.length_drop] ; omega)) fun r2 hi2 => ?_
  dsimp only [po_clones_prow] at hi2
  refine mustP (rfl) ?_
  refine mustP (rfl) ?_
  refine allB_mk (fun h2 => ?_)
  refine ifP (fun hc3 => ?_) (fun hc3 => ?_)
  first | (exfalso ; omega) | (exfalso ; exact dead_right (by assumption) (by assumption) (by assumption) (by assumption) (by assumption))
  refine mustP (by first | omega | (simp only [List.length_take, List.length_drop] ; omega)) ?_
  refine callPR (⟨h2, r2.o, hsl h1 18 0 r2.o.length, (r1.o.drop 0).take (r2.o.length - 0)⟩ : A_eqf) rfl (by (try dsimp only [pre_eqf]) ; first | omega | (simp only [List.length_take, List.length_drop] ; omega)) fun r3 hi4 => ?_
  dsimp only [po_eqf] at hi4
  refine ifP (fun hc5 => ?_) (fun hc5 => ?_)
  first | (exfalso ; omega) | (exfalso ; exact dead_right (by assumption) (by assumption) (by assumption) (by assumption) (by assumption))
  refine ifP (fun hc6 => ?_) (fun hc6 => ?_)
  first | (exfalso ; omega) | (exfalso ; exact dead_right (by assumption) (by assumption) (by assumption) (by assumption) (by assumption))
  refine ifP (fun hc7 => ?_) (fun hc7 => ?_)
  first | (exfalso ; omega) | (exfalso ; exact dead_right (by assumption) (by assumption) (by assumption) (by assumption) (by assumption))
  refine callPR (⟨p.f.s1.l⟩ : A_clones_prow) rfl (by (try dsimp only [pre_clones_prow]) ; first | omega | (simp only [List.length_take, List.length_drop] ; omega)) fun r4 hi8 => ?_
  dsimp only [po_clones_prow] at hi8
  refine mustP (rfl) ?_
  refine mustP (rfl) ?_
  refine allB_mk (fun h3 => ?_)
  refine ifP (fun hc9 => ?_) (fun hc9 => ?_)
  first | (exfalso ; omega) | (exfalso ; exact dead_right (by assumption) (by assumption) (by assumption) (by assumption) (by assumption))
  refine mustP (by first | omega | (simp only [List.length_take, List.length_drop] ; omega)) ?_
  refine callPR (⟨h3, r4.o, hsl h1 18 0 r4.o.length, (r1.o.drop 0).take (r4.o.length - 0)⟩ : A_eqf) rfl (by (try dsimp only [pre_eqf]) ; first | omega | (simp only [List.length_take, List.length_drop] ; omega)) fun r5 hi10 => ?_
  dsimp only [po_eqf] at hi10
  refine ifP (fun hc11 => ?_) (fun hc11 => ?_)
  first | (exfalso ; omega) | (exfalso ; exact dead_right (by assumption) (by assumption) (by assumption) (by assumption) (by assumption))
  refine ifP (fun hc12 => ?_) (fun hc12 => ?_)
  first | (exfalso ; omega) | (exfalso ; exact dead_right (by assumption) (by assumption) (by assumption) (by assumption) (by assumption))
  refine ifP (fun hc13 => ?_) (fun hc13 => ?_)
  first | (exfalso ; omega) | (exfalso ; exact dead_right (by assumption) (by assumption) (by assumption) (by assumption) (by assumption))
  refine callPR (⟨p.f.s2.l⟩ : A_clones_prow) rfl (by (try dsimp only [pre_clones_prow]) ; first | omega | (simp only [List.length_take, List.length_drop] ; omega)) fun r6 hi14 => ?_
  dsimp only [po_clones_prow] at hi14
  refine mustP (rfl) ?_
  refine mustP (rfl) ?_
  refine allB_mk (fun h4 => ?_)
  refine ifP (fun hc15 => ?_) (fun hc15 => ?_)
  first | (exfalso ; omega) | (exfalso ; exact dead_right (by assumption) (by assumption) (by assumption) (by assumption) (by assumption))
  refine mustP (by first | omega | (simp only [List.length_take, List.length_drop] ; omega)) ?_
  refine callPR (⟨h4, r6.o, hsl h1 18 0 r6.o.length, (r1.o.drop 0).take (r6.o.length - 0)⟩ : A_eqf) rfl (by (try dsimp only [pre_eqf]) ; first | omega | (simp only [List.length_take, List.length_drop] ; omega)) fun r7 hi16 => ?_
  dsimp only [po_eqf] at hi16
  refine ifP (fun hc17 => ?_) (fun hc17 => ?_)
  first | (exfalso ; omega) | (exfalso ; exact dead_right (by assumption) (by assumption) (by assumption) (by assumption) (by assumption))
  refine ifP (fun hc18 => ?_) (fun hc18 => ?_)
  first | (exfalso ; omega) | (exfalso ; exact dead_right (by assumption) (by assumption) (by assumption) (by assumption) (by assumption))
  refine ifP (fun hc19 => ?_) (fun hc19 => ?_)
  first | (exfalso ; omega) | (exfalso ; exact dead_right (by assumption) (by assumption) (by assumption) (by assumption) (by assumption))
  exact hK
noncomputable def ec_right3 : SpecE := tstE (elB 1 3) (esOf I_right3 (spP pre_right3 out_right3)) ec_right2
theorem nc_right3 : NatE Try.prog 29 1 ec_right3 := tstE_ok (natE_pl (f := 29) (k := 1) (cfT_ok nat_right2_ok) ft_right3_ok (by rfl) (by rfl) vf_right3) nc_right2
noncomputable def nat_right3 := natC nat_right2 1 ec_right3 29 [(0, 4)]
theorem nat_right3_ok : NatsOk Try.prog nat_right3 := natC_ok nc_right3 nat_right2_ok
def ft_right4 : XF := ft_right1
theorem ft_right4_ok : chkF Try.prog 29 ft_right4 = true := ft_right1_ok
structure A_right4 where
  f : F4
noncomputable def I_right4 (p : A_right4) : IE := ([.ptr 0 0], (Fd4n p.f), 19)
noncomputable def out_right4 (p : A_right4) (K : KE) : Bool := K (.bool true) (Fd4n p.f) 19
def pre_right4 (p : A_right4) : Prop := FI4 p.f
theorem vf_right4 (p : A_right4) (K : KE) (hpre : pre_right4 p) (hK : out_right4 p K = true) : (funE 1 (cfT nat_right3) noLp 600 ft_right4 (I_right4 p).1 (I_right4 p).2.1 (I_right4 p).2.2 K) = true := by
  refine Eq.trans (b := (exB fun p1 : A_clones_prow => must (prB (([.sy (.prow 0 p.f.s0.l.length)], (.node .leaf (some (.prow 45 18 Int p.f.s0.l encK)) .leaf), 1) = I_clones_prow p1)) (must (prB (pre_clones_prow p1)) (allB fun r1 : R_clones_prow => ifB (prB (po_clones_prow p1 r1)) (must (prB (r1.o.length = r1.o.length)) (must (prB (r1.o.length = r1.o.length)) (allB fun h1 : Value => exB fun p2 : A_clones_prow => must (prB (([.sy (.prow 0 p.f.s0.l.length)], (.node .leaf (some (.prow 45 18 Int p1.l encK)) .leaf), 1) = I_clones_prow p2)) (must (prB (pre_clones_prow p2)) (allB fun r2 : R_clones_prow => ifB (prB (po_clones_prow p2 r2)) (must (prB (r2.o.length = r2.o.length)) (must (prB (r2.o.length = r2.o.length)) (allB fun h2 : Value => ifB (prB ((r1.o.length : Int) < (r2.o.length : Int))) (K (.bool false) (Fd4 ({ p.f with s0 := ({ p.f.s0 with l := p2.l } : Rl) } : F4) p.f.fly.length p.f.s0.l.length p.f.s1.l.length p.f.s2.l.length p.f.s3.l.length) 19) (must (prB (0 ≤ (0 : Int) ∧ (0 : Int) ≤ (r2.o.length : Int) ∧ (r2.o.length : Int) ≤ (r1.o.length : Int))) (exB fun p3 : A_eqf => must (prB (([.sy (.imm h2 18 Int r2.o encK), .sy (.imm (hsl h1 18 0 r2.o.length) 18 Int ((r1.o.drop 0).take (r2.o.length - 0)) encK), .fn 62 []], .leaf, 0) = I_eqf p3)) (must (prB (pre_eqf p3)) (allB fun r3 : R_eqf => ifB (prB (po_eqf p3 r3)) (ifB (prB (¬ r3.q)) (K (.bool false) (Fd4 ({ p.f with s0 := ({ p.f.s0 with l := p2.l } : Rl) } : F4) p.f.fly.length p.f.s0.l.length p.f.s1.l.length p.f.s2.l.length p.f.s3.l.length) 19) (ifB (prB ((r2.o.length : Int) < p.f.s0.com)) (K (.bool false) (Fd4 ({ p.f with s0 := ({ p.f.s0 with l := p2.l } : Rl) } : F4) p.f.fly.length p.f.s0.l.length p.f.s1.l.length p.f.s2.l.length p.f.s3.l.length) 19) (ifB (prB (p.f.s0.com < p.f.s0.com)) (K (.bool false) (Fd4 ({ p.f with s0 := ({ p.f.s0 with l := p2.l } : Rl) } : F4) p.f.fly.length p.f.s0.l.length p.f.s1.l.length p.f.s2.l.length p.f.s3.l.length) 19) (exB fun p4 : A_clones_prow => must (prB (([.sy (.prow 0 p.f.s1.l.length)], (.node .leaf (some (.prow 45 18 Int p.f.s1.l encK)) .leaf), 1) = I_clones_prow p4)) (must (prB (pre_clones_prow p4)) (allB fun r4 : R_clones_prow => ifB (prB (po_clones_prow p4 r4)) (must (prB (r4.o.length = r4.o.length)) (must (prB (r4.o.length = r4.o.length)) (allB fun h3 : Value => ifB (prB ((r1.o.length : Int) < (r4.o.length : Int))) (K (.bool false) (Fd4 ({ p.f with s0 := ({ p.f.s0 with l := p2.l } : Rl), s1 := ({ p.f.s1 with l := p4.l } : Rl) } : F4) p.f.fly.length p.f.s0.l.length p.f.s1.l.length p.f.s2.l.length p.f.s3.l.length) 19) (must (prB (0 ≤ (0 : Int) ∧ (0 : Int) ≤ (r4.o.length : Int) ∧ (r4.o.length : Int) ≤ (r1.o.length : Int))) (exB fun p5 : A_eqf => must (prB (([.sy (.imm h3 18 Int r4.o encK), .sy (.imm (hsl h1 18 0 r4.o.length) 18 Int ((r1.o.drop 0).take (r4.o.length - 0)) encK), .fn 62 []], .leaf, 0) = I_eqf p5)) (must (prB (pre_eqf p5)) (allB fun r5 : R_eqf => ifB (prB (po_eqf p5 r5)) (ifB (prB (¬ r5.q)) (K (.bool false) (Fd4 ({ p.f with s0 := ({ p.f.s0 with l := p2.l } : Rl), s1 := ({ p.f.s1 with l := p4.l } : Rl) } : F4) p.f.fly.length p.f.s0.l.length p.f.s1.l.length p.f.s2.l.length p.f.s3.l.length) 19) (ifB (prB ((r4.o.length : Int) < p.f.s1.com)) (K (.bool false) (Fd4 ({ p.f with s0 := ({ p.f.s0 with l := p2.l } : Rl), s1 := ({ p.f.s1 with l := p4.l } : Rl) } : F4) p.f.fly.length p.f.s0.l.length p.f.s1.l.length p.f.s2.l.length p.f.s3.l.length) 19) (ifB (prB (p.f.s0.com < p.f.s1.com)) (K (.bool false) (Fd4 ({ p.f with s0 := ({ p.f.s0 with l := p2.l } : Rl), s1 := ({ p.f.s1 with l := p4.l } : Rl) } : F4) p.f.fly.length p.f.s0.l.length p.f.s1.l.length p.f.s2.l.length p.f.s3.l.length) 19) (exB fun p6 : A_clones_prow => must (prB (([.sy (.prow 0 p.f.s2.l.length)], (.node .leaf (some (.prow 45 18 Int p.f.s2.l encK)) .leaf), 1) = I_clones_prow p6)) (must (prB (pre_clones_prow p6)) (allB fun r6 : R_clones_prow => ifB (prB (po_clones_prow p6 r6)) (must (prB (r6.o.length = r6.o.length)) (must (prB (r6.o.length = r6.o.length)) (allB fun h4 : Value => ifB (prB ((r1.o.length : Int) < (r6.o.length : Int))) (K (.bool false) (Fd4 ({ p.f with s0 := ({ p.f.s0 with l := p2.l } : Rl), s1 := ({ p.f.s1 with l := p4.l } : Rl), s2 := ({ p.f.s2 with l := p6.l } : Rl) } : F4) p.f.fly.length p.f.s0.l.length p.f.s1.l.length p.f.s2.l.length p.f.s3.l.length) 19) (must (prB (0 ≤ (0 : Int) ∧ (0 : Int) ≤ (r6.o.length : Int) ∧ (r6.o.length : Int) ≤ (r1.o.length : Int))) (exB fun p7 : A_eqf => must (prB (([.sy (.imm h4 18 Int r6.o encK), .sy (.imm (hsl h1 18 0 r6.o.length) 18 Int ((r1.o.drop 0).take (r6.o.length - 0)) encK), .fn 62 []], .leaf, 0) = I_eqf p7)) (must (prB (pre_eqf p7)) (allB fun r7 : R_eqf => ifB (prB (po_eqf p7 r7)) (ifB (prB (¬ r7.q)) (K (.bool false) (Fd4 ({ p.f with s0 := ({ p.f.s0 with l := p2.l } : Rl), s1 := ({ p.f.s1 with l := p4.l } : Rl), s2 := ({ p.f.s2 with l := p6.l } : Rl) } : F4) p.f.fly.length p.f.s0.l.length p.f.s1.l.length p.f.s2.l.length p.f.s3.l.length) 19) (ifB (prB ((r6.o.length : Int) < p.f.s2.com)) (K (.bool false) (Fd4 ({ p.f with s0 := ({ p.f.s0 with l := p2.l } : Rl), s1 := ({ p.f.s1 with l := p4.l } : Rl), s2 := ({ p.f.s2 with l := p6.l } : Rl) } : F4) p.f.fly.length p.f.s0.l.length p.f.s1.l.length p.f.s2.l.length p.f.s3.l.length) 19) (ifB (prB (p.f.s0.com < p.f.s2.com)) (K (.bool false) (Fd4 ({ p.f with s0 := ({ p.f.s0 with l := p2.l } : Rl), s1 := ({ p.f.s1 with l := p4.l } : Rl), s2 := ({ p.f.s2 with l := p6.l } : Rl) } : F4) p.f.fly.length p.f.s0.l.length p.f.s1.l.length p.f.s2.l.length p.f.s3.l.length) 19) (exB fun p8 : A_clones_prow => must (prB (([.sy (.prow 0 p.f.s3.l.length)], (.node .leaf (some (.prow 45 18 Int p.f.s3.l encK)) .leaf), 1) = I_clones_prow p8)) (must (prB (pre_clones_prow p8)) (allB fun r8 : R_clones_prow => ifB (prB (po_clones_prow p8 r8)) (must (prB (r8.o.length = r8.o.length)) (must (prB (r8.o.length = r8.o.length)) (allB fun h5 : Value => ifB (prB ((r1.o.length : Int) < (r8.o.length : Int))) (K (.bool false) (Fd4 ({ p.f with s0 := ({ p.f.s0 with l := p2.l } : Rl), s1 := ({ p.f.s1 with l := p4.l } : Rl), s2 := ({ p.f.s2 with l := p6.l } : Rl), s3 := ({ p.f.s3 with l := p8.l } : Rl) } : F4) p.f.fly.length p.f.s0.l.length p.f.s1.l.length p.f.s2.l.length p.f.s3.l.length) 19) (must (prB (0 ≤ (0 : Int) ∧ (0 : Int) ≤ (r8.o.length : Int) ∧ (r8.o.length : Int) ≤ (r1.o.length : Int))) (exB fun p9 : A_eqf => must (prB (([.sy (.imm h5 18 Int r8.o encK), .sy (.imm (hsl h1 18 0 r8.o.length) 18 Int ((r1.o.drop 0).take (r8.o.length - 0)) encK), .fn 62 []], .leaf, 0) = I_eqf p9)) (must (prB (pre_eqf p9)) (allB fun r9 : R_eqf => ifB (prB (po_eqf p9 r9)) (ifB (prB (¬ r9.q)) (K (.bool false) (Fd4 ({ p.f with s0 := ({ p.f.s0 with l := p2.l } : Rl), s1 := ({ p.f.s1 with l := p4.l } : Rl), s2 := ({ p.f.s2 with l := p6.l } : Rl), s3 := ({ p.f.s3 with l := p8.l } : Rl) } : F4) p.f.fly.length p.f.s0.l.length p.f.s1.l.length p.f.s2.l.length p.f.s3.l.length) 19) (ifB (prB ((r8.o.length : Int) < p.f.s3.com)) (K (.bool false) (Fd4 ({ p.f with s0 := ({ p.f.s0 with l := p2.l } : Rl), s1 := ({ p.f.s1 with l := p4.l } : Rl), s2 := ({ p.f.s2 with l := p6.l } : Rl), s3 := ({ p.f.s3 with l := p8.l } : Rl) } : F4) p.f.fly.length p.f.s0.l.length p.f.s1.l.length p.f.s2.l.length p.f.s3.l.length) 19) (ifB (prB (p.f.s0.com < p.f.s3.com)) (K (.bool false) (Fd4 ({ p.f with s0 := ({ p.f.s0 with l := p2.l } : Rl), s1 := ({ p.f.s1 with l := p4.l } : Rl), s2 := ({ p.f.s2 with l := p6.l } : Rl), s3 := ({ p.f.s3 with l := p8.l } : Rl) } : F4) p.f.fly.length p.f.s0.l.length p.f.s1.l.length p.f.s2.l.length p.f.s3.l.length) 19) (K (.bool true) (Fd4 ({ p.f with s0 := ({ p.f.s0 with l := p2.l } : Rl), s1 := ({ p.f.s1 with l := p4.l } : Rl), s2 := ({ p.f.s2 with l := p6.l } : Rl), s3 := ({ p.f.s3 with l := p8.l } : Rl) } : F4) p.f.fly.length p.f.s0.l.length p.f.s1.l.length p.f.s2.l.length p.f.s3.l.length) 19)))) true))))))) true)))))) true))))))) true)))))) true))))))) true)))))) true))))))) true))))) true)))) (by kernel_rfl) ?_
  dsimp only [pre_right4] at hpre
  have hinv : FInv p.f.s0 _ _ _ := hpre
  have g : p.f.s0.l.length ≤ 400 := hinv.short
  obtain ⟨u0, v0, w0, z0⟩ : RightP p.f.s0 p.f.s0 := hinv.right (j := 0) rfl
  obtain ⟨u1, v1, w1, z1⟩ : RightP p.f.s0 p.f.s1 := hinv.right (j := 1) rfl
  obtain ⟨u2, v2, w2, z2⟩ : RightP p.f.s0 p.f.s2 := hinv.right (j := 2) rfl
  obtain ⟨u3, v3, w3, z3⟩ : RightP p.f.s0 p.f.s3 := hinv.right (j := 3) rfl
  refine callPR (⟨p.f.s0.l⟩ : A_clones_prow) rfl (by (try dsimp only [pre_clones_prow]) ; first | omega | (simp only [List.length_take, List.length_drop] ; omega)) fun r1 hi1 => ?_
  dsimp only [po_clones_prow] at hi1
  refine mustP (rfl) ?_
  refine mustP (rfl) ?_
  refine allB_mk (fun h1 => ?_)
  refine callPR (⟨p.f.s0.l⟩ : A_clones_prow) rfl (by (try dsimp only [pre_clones_prow]) ; first | omega | (simp only [List.length_take, List.length_drop] ; omega)) fun r2 hi2 => ?_
  dsimp only [po_clones_prow] at hi2
  refine mustP (rfl) ?_
  refine mustP (rfl) ?_
  refine allB_mk (fun h2 => ?_)
  refine ifP (fun hc3 => ?_) (fun hc3 => ?_)
  first | (exfalso ; omega) | (exfalso ; exact dead_right (by assumption) (by assumption) (by assumption) (by assumption) (by assumption))
  refine mustP (by first | omega | (simp only [List.length_take, List.length_drop] ; omega)) ?_
  refine callPR (⟨h2, r2.o, hsl h1 18 0 r2.o.length, (r1.o.drop 0).take (r2.o.length - 0)⟩ : A_eqf) rfl (by (try dsimp only [pre_eqf]) ; first | omega | (simp only [List.length_take, List.length_drop] ; omega)) fun r3 hi4 => ?_
  dsimp only [po_eqf] at hi4
  refine ifP (fun hc5 => ?_) (fun hc5 => ?_)
  first | (exfalso ; omega) | (exfalso ; exact dead_right (by assumption) (by assumption) (by assumption) (by assumption) (by assumption))
  refine ifP (fun hc6 => ?_) (fun hc6 => ?_)
  first | (exfalso ; omega) | (exfalso ; exact dead_right (by assumption) (by assumption) (by assumption) (by assumption) (by assumption))
  refine ifP (fun hc7 => ?_) (fun hc7 => ?_)
  first | (exfalso ; omega) | (exfalso ; exact dead_right (by assumption) (by assumption) (by assumption) (by assumption) (by assumption))
  refine callPR (⟨p.f.s1.l⟩ : A_clones_prow) rfl (by (try dsimp only [pre_clones_prow]) ; first | omega | (simp only [List.length_take, List.length_drop] ; omega)) fun r4 hi8 => ?_
  dsimp only [po_clones_prow] at hi8
  refine mustP (rfl) ?_
  refine mustP (rfl) ?_
  refine allB_mk (fun h3 => ?_)
  refine ifP (fun hc9 => ?_) (fun hc9 => ?_)
  first | (exfalso ; omega) | (exfalso ; exact dead_right (by assumption) (by assumption) (by assumption) (by assumption) (by assumption))
  refine mustP (by first | omega | (simp only [List.length_take, List.length_drop] ; omega)) ?_
  refine callPR (⟨h3, r4.o, hsl h1 18 0 r4.o.length, (r1.o.drop 0).take (r4.o.length - 0)⟩ : A_eqf) rfl (by (try dsimp only [pre_eqf]) ; first | omega | (simp only [List.length_take, List.length_drop] ; omega)) fun r5 hi10 => ?_
  dsimp only [po_eqf] at hi10
  refine ifP (fun hc11 => ?_) (fun hc11 => ?_)
  first | (exfalso ; omega) | (exfalso ; exact dead_right (by assumption) (by assumption) (by assumption) (by assumption) (by assumption))
  refine ifP (fun hc12 => ?_) (fun hc12 => ?_)
  first | (exfalso ; omega) | (exfalso ; exact dead_right (by assumption) (by assumption) (by assumption) (by assumption) (by assumption))
  refine ifP (fun hc13 => ?_) (fun hc13 => ?_)
  first | (exfalso ; omega) | (exfalso ; exact dead_right (by assumption) (by assumption) (by assumption) (by assumption) (by assumption))
  refine callPR (⟨p.f.s2.l⟩ : A_clones_prow) rfl (by (try dsimp only [pre_clones_prow]) ; first | omega | (simp only [List.length_take, List.length_drop] ; omega)) fun r6 hi14 => ?_
  dsimp only [po_clones_prow] at hi14
  refine mustP (rfl) ?_
  refine mustP (rfl) ?_
  refine allB_mk (fun h4 => ?_)
  refine ifP (fun hc15 => ?_) (fun hc15 => ?_)
  first | (exfalso ; omega) | (exfalso ; exact dead_right (by assumption) (by assumption) (by assumption) (by assumption) (by assumption))
  refine mustP (by first | omega | (simp only [List.length_take, List.length_drop] ; omega)) ?_
  refine callPR (⟨h4, r6.o, hsl h1 18 0 r6.o.length, (r1.o.drop 0).take (r6.o.length - 0)⟩ : A_eqf) rfl (by (try dsimp only [pre_eqf]) ; first | omega | (simp only [List.length_take, List.length_drop] ; omega)) fun r7 hi16 => ?_
  dsimp only [po_eqf] at hi16
  refine ifP (fun hc17 => ?_) (fun hc17 => ?_)
  first | (exfalso ; omega) | (exfalso ; exact dead_right (by assumption) (by assumption) (by assumption) (by assumption) (by assumption))
  refine ifP (fun hc18 => ?_) (fun hc18 => ?_)
  first | (exfalso ; omega) | (exfalso ; exact dead_right (by assumption) (by assumption) (by assumption) (by assumption) (by assumption))
  refine ifP (fun hc19 => ?_) (fun hc19 => ?_)
  first | (exfalso ; omega) | (exfalso ; exact dead_right (by assumption) (by assumption) (by assumption) (by assumption) (by assumption))
  refine callPR (⟨p.f.s3.l⟩ : A_clones_prow) rfl (by (try dsimp only [pre_clones_prow]) ; first | omega | (simp only [List.length_take, List.length_drop] ; omega)) fun r8 hi20 => ?_
  dsimp only [po_clones_prow] at hi20
  refine mustP (rfl) ?_
  refine mustP (rfl) ?_
  refine allB_mk (fun h5 => ?_)
  refine ifP (fun hc21 => ?_) (fun hc21 => ?_)
  first | (exfalso ; omega) | (exfalso ; exact dead_right (by assumption) (by assumption) (by assumption) (by assumption) (by assumption))
  refine mustP (by first | omega | (simp only [List.length_take, List.length_drop] ; omega)) ?_
  refine callPR (⟨h5, r8.o, hsl h1 18 0 r8.o.length, (r1.o.drop 0).take (r8.o.length - 0)⟩ : A_eqf) rfl (by (try dsimp only [pre_eqf]) ; first | omega | (simp only [List.length_take, List.length_drop] ; omega)) fun r9 hi22 => ?_
  dsimp only [po_eqf] at hi22
  refine ifP (fun hc23 => ?_) (fun hc23 => ?_)
  first | (exfalso ; omega) | (exfalso ; exact dead_right (by assumption) (by assumption) (by assumption) (by assumption) (by assumption))
  refine ifP (fun hc24 => ?_) (fun hc24 => ?_)
  first | (exfalso ; omega) | (exfalso ; exact dead_right (by assumption) (by assumption) (by assumption) (by assumption) (by assumption))
  refine ifP (fun hc25 => ?_) (fun hc25 => ?_)
  first | (exfalso ; omega) | (exfalso ; exact dead_right (by assumption) (by assumption) (by assumption) (by assumption) (by assumption))
  exact hK
noncomputable def ec_right4 : SpecE := tstE (elB 1 4) (esOf I_right4 (spP pre_right4 out_right4)) ec_right3
theorem nc_right4 : NatE Try.prog 29 1 ec_right4 := tstE_ok (natE_pl (f := 29) (k := 1) (cfT_ok nat_right3_ok) ft_right4_ok (by rfl) (by rfl) vf_right4) nc_right3
noncomputable def nat_right4 := natC nat_right3 1 ec_right4 29 [(0, 4)]
theorem nat_right4_ok : NatsOk Try.prog nat_right4 := natC_ok nc_right4 nat_right3_ok
end Go.Proofs.Try

namespace Go.Proofs.Try
open Go Go.RowKit Go.Sy
open Go.Eng hiding allB
set_option maxRecDepth 1000000
set_option linter.unusedVariables false
set_option maxHeartbeats 4000000
def ft_right5 : XF := .mk 75 (.one 2) (.seq (g_ 1 [p_ 0 2 (.mv (.c (.bool false)))]) (.seq (.aft (g_ 8 [p_ 0 6 (m_ 0), p_ 1 7 (n_ 6), p_ 2 8 (f_ 0 7), r_ 3 9 (l_ 8), p_ 4 10 (.ixs 1 (.t 9) (i_ 0)), r_ 5 11 (l_ 10), c_ 6 12 23 [.t 11], p_ 7 3 (m_ 12)]) [(0, [.frz 3])]) (.seq (.seq (g_ 1 [p_ 0 4 (.mv (i_ 0))]) (.block 2 (.loop [0, 2, 3, 4, 5, 13, 14, 15, 16, 17, 18, 19, 20, 21, 22, 23, 24, 25, 26, 27, 28, 29, 30, 31, 32, 33, 34, 35, 36, 37, 38, 39, 40, 41, 42, 43, 44, 45, 46, 47, 48, 49, 50, 51, 52, 53, 54, 55, 56, 57, 58, 59, 60, 61, 62, 63, 64, 65, 66, 67, 68, 69, 70, 71, 72, 73, 74] (.seq (.seq (g_ 7 [p_ 0 13 (m_ 4), p_ 1 14 (m_ 0), p_ 2 15 (n_ 14), p_ 3 16 (f_ 0 15), r_ 4 17 (l_ 16), p_ 5 18 (k_ 17), p_ 6 19 (.bin 3 0 (.t 13) (.t 18))]) (.cond (.t 19) .skip (.exit 2))) (.seq (.block 3 (.seq (.aft (g_ 9 [p_ 0 22 (m_ 0), p_ 1 23 (n_ 22), p_ 2 24 (f_ 0 23), r_ 3 25 (l_ 24), p_ 4 26 (m_ 4), p_ 5 27 (.ixs 1 (.t 25) (.t 26)), r_ 6 28 (l_ 27), c_ 7 29 23 [.t 28], p_ 8 5 (m_ 29)]) [(0, [.frz 5])]) (.seq (h_ 45 [p_ 0 30 (m_ 5), p_ 1 31 (k_ 30), p_ 2 32 (m_ 3), p_ 3 33 (k_ 32), p_ 4 34 (.bin 3 2 (.t 31) (.t 33)), p_ 5 35 (m_ 34), pg_ 6 36 35 false (m_ 5), pg_ 7 37 35 false (m_ 3), pg_ 8 38 35 false (m_ 5), pg_ 9 39 35 false (k_ 38), rg_ 10 40 35 false (.sls 18 (.t 37) none (some (.t 39)) none), cg_ 11 41 35 false 42 [.t 36, .t 40], pg_ 12 42 35 false (.un 0 (.t 41)), p_ 13 43 (.pick (.t 35) (.c (.bool true)) (.t 42)), p_ 14 44 (m_ 43), pg_ 15 45 44 false (m_ 0), pg_ 16 46 44 false (n_ 45), pg_ 17 47 44 false (f_ 0 46), rg_ 18 48 44 false (l_ 47), pg_ 19 49 44 false (m_ 4), pg_ 20 50 44 false (.ixs 1 (.t 48) (.t 49)), rg_ 21 51 44 false (l_ 50), pg_ 23 53 44 false (m_ 5), pg_ 24 54 44 false (k_ 53), cg_ 22 52 44 false 14 [.t 51], pg_ 25 55 44 false (.bin 3 2 (.t 52) (.t 54)), p_ 26 56 (.pick (.t 44) (.c (.bool true)) (.t 55)), p_ 27 57 (m_ 56), pg_ 28 58 57 false (m_ 0), pg_ 29 59 57 false (n_ 58), pg_ 30 60 57 false (f_ 0 59), rg_ 31 61 57 false (l_ 60), pg_ 32 62 57 false (m_ 4), pg_ 33 63 57 false (.ixs 1 (.t 61) (.t 62)), rg_ 34 64 57 false (l_ 63), pg_ 36 66 57 false (m_ 0), pg_ 37 67 57 false (n_ 66), pg_ 38 68 57 false (f_ 0 67), rg_ 39 69 57 false (l_ 68), pg_ 40 70 57 false (.ixs 1 (.t 69) (i_ 0)), rg_ 41 71 57 false (l_ 70), cg_ 35 65 57 false 14 [.t 64], ag_ 39 69 57 false (l_ 68), ag_ 41 71 57 false (l_ 70), cg_ 42 72 57 false 14 [.t 71], pg_ 43 73 57 false (.bin 3 2 (.t 65) (.t 72)), p_ 44 74 (.pick (.t 57) (.c (.bool true)) (.t 73))]) (.cond (.t 74) (.seq (g_ 1 [p_ 0 2 (.mv (.c (.bool false)))]) .ret) .skip)))) (g_ 3 [p_ 0 20 (m_ 4), p_ 1 21 (.bin 0 0 (.t 20) (i_ 1)), p_ 2 4 (m_ 21)])))))) (.seq (g_ 1 [p_ 0 2 (.mv (.c (.bool true)))]) .ret))))
theorem ft_right5_ok : chkF Try.prog 29 ft_right5 = true := by kernel_rfl
structure A_right5 where
  f : F5
noncomputable def I_right5 (p : A_right5) : IE := ([.ptr 0 0], (Fd5n p.f), 23)
noncomputable def out_right5 (p : A_right5) (K : KE) : Bool := K (.bool true) (Fd5n p.f) 23
def pre_right5 (p : A_right5) : Prop := FI5 p.f
theorem vf_right5 (p : A_right5) (K : KE) (hpre : pre_right5 p) (hK : out_right5 p K = true) : (funE 1 (cfT nat_right4) noLp 600 ft_right5 (I_right5 p).1 (I_right5 p).2.1 (I_right5 p).2.2 K) = true := by
  refine Eq.trans (b := (exB fun p1 : A_clones_prow => must (prB (([.sy (.prow 0 p.f.s0.l.length)], (.node .leaf (some (.prow 45 18 Int p.f.s0.l encK)) .leaf), 1) = I_clones_prow p1)) (must (prB (pre_clones_prow p1)) (allB fun r1 : R_clones_prow => ifB (prB (po_clones_prow p1 r1)) (must (prB (r1.o.length = r1.o.length)) (must (prB (r1.o.length = r1.o.length)) (allB fun h1 : Value => exB fun p2 : A_clones_prow => must (prB (([.sy (.prow 0 p.f.s0.l.length)], (.node .leaf (some (.prow 45 18 Int p1.l encK)) .leaf), 1) = I_clones_prow p2)) (must (prB (pre_clones_prow p2)) (allB fun r2 : R_clones_prow => ifB (prB (po_clones_prow p2 r2)) (must (prB (r2.o.length = r2.o.length)) (must (prB (r2.o.length = r2.o.length)) (allB fun h2 : Value => ifB (prB ((r1.o.length : Int) < (r2.o.length : Int))) (K (.bool false) (Fd5 ({ p.f with s0 := ({ p.f.s0 with l := p2.l } : Rl) } : F5) p.f.fly.length p.f.s0.l.length p.f.s1.l.length p.f.s2.l.length p.f.s3.l.length p.f.s4.l.length) 23) (must (prB (0 ≤ (0 : Int) ∧ (0 : Int) ≤ (r2.o.length : Int) ∧ (r2.o.length : Int) ≤ (r1.o.length : Int))) (exB fun p3 : A_eqf => must (prB (([.sy (.imm h2 18 Int r2.o encK), .sy (.imm (hsl h1 18 0 r2.o.length) 18 Int ((r1.o.drop 0).take (r2.o.length - 0)) encK), .fn 62 []], .leaf, 0) = I_eqf p3)) (must (prB (pre_eqf p3)) (allB fun r3 : R_eqf => ifB (prB (po_eqf p3 r3)) (ifB (prB (¬ r3.q)) (K (.bool false) (Fd5 ({ p.f with s0 := ({ p.f.s0 with l := p2.l } : Rl) } : F5) p.f.fly.length p.f.s0.l.length p.f.s1.l.length p.f.s2.l.length p.f.s3.l.length p.f.s4.l.length) 23) (ifB (prB ((r2.o.length : Int) < p.f.s0.com)) (K (.bool false) (Fd5 ({ p.f with s0 := ({ p.f.s0 with l := p2.l } : Rl) } : F5) p.f.fly.length p.f.s0.l.length p.f.s1.l.length p.f.s2.l.length p.f.s3.l.length p.f.s4.l.length) 23) (ifB (prB (p.f.s0.com < p.f.s0.com)) (K (.bool false) (Fd5 ({ p.f with s0 := ({ p.f.s0 with l := p2.l } : Rl) } : F5) p.f.fly.length p.f.s0.l.length p.f.s1.l.length p.f.s2.l.length p.f.s3.l.length p.f.s4.l.length) 23) (exB fun p4 : A_clones_prow => must (prB (([.sy (.prow 0 p.f.s1.l.length)], (.node .leaf (some (.prow 45 18 Int p.f.s1.l encK)) .leaf), 1) = I_clones_prow p4)) (must (prB (pre_clones_prow p4)) (allB fun r4 : R_clones_prow => ifB (prB (po_clones_prow p4 r4)) (must (prB (r4.o.length = r4.o.length)) (must (prB (r4.o.length = r4.o.length)) (allB fun h3 : Value => ifB (prB ((r1.o.length : Int) < (r4.o.length : Int))) (K (.bool false) (Fd5 ({ p.f with s0 := ({ p.f.s0 with l := p2.l } : Rl), s1 := ({ p.f.s1 with l := p4.l } : Rl) } : F5) p.f.fly.length p.f.s0.l.length p.f.s1.l.length p.f.s2.l.length p.f.s3.l.length p.f.s4.l.length) 23) (must (prB (0 ≤ (0 : Int) ∧ (0 : Int) ≤ (r4.o.length : Int) ∧ (r4.o.length : Int) ≤ (r1.o.length : Int))) (exB fun p5 : A_eqf => must (prB (([.sy (.imm h3 18 Int r4.o encK), .sy (.imm (hsl h1 18 0 r4.o.length) 18 Int ((r1.o.drop 0).take (r4.o.length - 0)) encK), .fn 62 []], .leaf, 0) = I_eqf p5)) (must (prB (pre_eqf p5)) (allB fun r5 : R_eqf => ifB (prB (po_eqf p5 r5)) (ifB (prB (¬ r5.q)) (K (.bool false) (Fd5 ({ p.f with s0 := ({ p.f.s0 with l := p2.l } : Rl), s1 := ({ p.f.s1 with l := p4.l } : Rl) } : F5) p.f.fly.length p.f.s0.l.length p.f.s1.l.length p.f.s2.l.length p.f.s3.l.length p.f.s4.l.length) 23) (ifB (prB ((r4.o.length : Int) < p.f.s1.com)) (K (.bool false) (Fd5 ({ p.f with s0 := ({ p.f.s0 with l := p2.l } : Rl), s1 := ({ p.f.s1 with l := p4.l } : Rl) } : F5) p.f.fly.length p.f.s0.l.length p.f.s1.l.length p.f.s2.l.length p.f.s3.l.length p.f.s4.l.length) 23) (ifB (prB (p.f.s0.com < p.f.s1.com)) (K (.bool false) (Fd5 ({ p.f with s0 := ({ p.f.s0 with l := p2.l } : Rl), s1 := ({ p.f.s1 with l := p4.l } : Rl) } : F5) p.f.fly.length p.f.s0.l.length p.f.s1.l.length p.f.s2.l.length p.f.s3.l.length p.f.s4.l.length) 23) (exB fun p6 : A_clones_prow => must (prB (([.sy (.prow 0 p.f.s2.l.length)], (.node .leaf (some (.prow 45 18 Int p.f.s2.l encK)) .leaf), 1) = I_clones_prow p6)) (must (prB (pre_clones_prow p6)) (allB fun r6 : R_clones_prow => ifB (prB (po_clones_prow p6 r6)) (must (prB (r6.o.length = r6.o.length)) (must (prB (r6.o.length = r6.o.length)) (allB fun h4 : Value => ifB (prB ((r1.o.length : Int) < (r6.o.length : Int))) (K (.bool false) (Fd5 ({ p.f with s0 := ({ p.f.s0 with l := p2.l } : Rl), s1 := ({ p.f.s1 with l := p4.l } : Rl), s2 := ({ p.f.s2 with l := p6.l } : Rl) } : F5) p.f.fly.length p.f.s0.l.length p.f.s1.l.length p.f.s2.l.length p.f.s3.l.length p.f.s4.l.length) 23) (must (prB (0 ≤ (0 : Int) ∧ (0 : Int) ≤ (r6.o.length : Int) ∧ (r6.o.length : Int) ≤ (r1.o.length : Int))) (exB fun p7 : A_eqf => must (prB (([.sy (.imm h4 18 Int r6.o encK), .sy (.imm (hsl h1 18 0 r6.o.length) 18 Int ((r1.o.drop 0).take (r6.o.length - 0)) encK), .fn 62 []], .leaf, 0) = I_eqf p7)) (must (prB (pre_eqf p7)) (allB fun r7 : R_eqf => ifB (prB (po_eqf p7 r7)) (ifB (prB (¬ r7.q)) (K (.bool false) (Fd5 ({ p.f with s0 := ({ p.f.s0 with l := p2.l } : Rl), s1 := ({ p.f.s1 with l := p4.l } : Rl), s2 := ({ p.f.s2 with l := p6.l } : Rl) } : F5) p.f.fly.length p.f.s0.l.length p.f.s1.l.length p.f.s2.l.length p.f.s3.l.length p.f.s4.l.length) 23) (ifB (prB ((r6.o.length : Int) < p.f.s2.com)) (K (.bool false) (Fd5 ({ p.f with s0 := ({ p.f.s0 with l := p2.l } : Rl), s1 := ({ p.f.s1 with l := p4.l } : Rl), s2 := ({ p.f.s2 with l := p6.l } : Rl) } : F5) p.f.fly.length p.f.s0.l.length p.f.s1.l.length p.f.s2.l.length p.f.s3.l.length p.f.s4.l.length) 23) (ifB (prB (p.f.s0.com < p.f.s2.com)) (K (.bool false) (Fd5 ({ p.f with s0 := ({ p.f.s0 with l := p2.l } : Rl), s1 := ({ p.f.s1 with l := p4.l } : Rl), s2 := ({ p.f.s2 with l := p6.l } : Rl) } : F5) p.f.fly.length p.f.s0.l.length p.f.s1.l.length p.f.s2.l.length p.f.s3.l.length p.f.s4.l.length) 23) (exB fun p8 : A_clones_prow => must (prB (([.sy (.prow 0 p.f.s3.l.length)], (.node .leaf (some (.prow 45 18 Int p.f.s3.l encK)) .leaf), 1) = I_clones_prow p8)) (must (prB (pre_clones_prow p8)) (allB fun r8 : R_clones_prow => ifB (prB (po_clones_prow p8 r8)) (must (prB (r8.o.length = r8.o.length)) (must (prB (r8.o.length = r8.o.length)) (allB fun h5 : Value => ifB (prB ((r1.o.length : Int) < (r8.o.length : Int))) (K (.bool false) (Fd5 ({ p.f with s0 := ({ p.f.s0 with l := p2.l } : Rl), s1 := ({ p.f.s1 with l := p4.l } : Rl), s2 := ({ p.f.s2 with l := p6.l } : Rl), s3 := ({ p.f.s3 with l := p8.l } : Rl) } : F5) p.f.fly.length p.f.s0.l.length p.f.s1.l.length p.f.s2.l.length p.f.s3.l.length p.f.s4.l.length) 23) (must (prB (0 ≤ (0 : Int) ∧ (0 : Int) ≤ (r8.o.length : Int) ∧ (r8.o.length : Int) ≤ (r1.o.length : Int))) (exB fun p9 : A_eqf => must (prB (([.sy (.imm h5 18 Int r8.o encK), .sy (.imm (hsl h1 18 0 r8.o.length) 18 Int ((r1.o.drop 0).take (r8.o.length - 0)) encK), .fn 62 []], .leaf, 0) = I_eqf p9)) (must (prB (pre_eqf p9)) (allB fun r9 : R_eqf => ifB (prB (po_eqf p9 r9)) (ifB (prB (¬ r9.q)) (K (.bool false) (Fd5 ({ p.f with s0 := ({ p.f.s0 with l := p2.l } : Rl), s1 := ({ p.f.s1 with l := p4.l } : Rl), s2 := ({ p.f.s2 with l := p6.l } : Rl), s3 := ({ p.f.s3 with l := p8.l } : Rl) } : F5) p.f.fly.length p.f.s0.l.length p.f.s1.l.length p.f.s2.l.length p.f.s3.l.length p.f.s4.l.length) 23) (ifB (prB ((r8.o.length : Int) < p.f.s3.com)) (K (.bool false) (Fd5 ({ p.f with s0 := ({ p.f.s0 with l := p2.l } : Rl), s1 := ({ p.f.s1 with l := p4.l } : Rl), s2 := ({ p.f.s2 with l := p6.l } : Rl), s3 := ({ p.f.s3 with l := p8.l } : Rl) } : F5) p.f.fly.length p.f.s0.l.length p.f.s1.l.length p.f.s2.l.length p.f.s3.l.length p.f.s4.l.length) 23) (ifB (prB (p.f.s0.com < p.f.s3.com)) (K (.bool false) (Fd5 ({ p.f with s0 := ({ p.f.s0 with l := p2.l } : Rl), s1 := ({ p.f.s1 with l := p4.l } : Rl), s2 := ({ p.f.s2 with l := p6.l } : Rl), s3 := ({ p.f.s3 with l := p8.l } : Rl) } : F5) p.f.fly.length p.f.s0.l.length p.f.s1.l.length p.f.s2.l.length p.f.s3.l.length p.f.s4.l.length) 23) (exB fun p10 : A_clones_prow => must (prB (([.sy (.prow 0 p.f.s4.l.length)], (.node .leaf (some (.prow 45 18 Int p.f.s4.l encK)) .leaf), 1) = I_clones_prow p10)) (must (prB (pre_clones_prow p10)) (allB fun r10 : R_clones_prow => ifB (prB (po_clones_prow p10 r10)) (must (prB (r10.o.length = r10.o.length)) (must (prB (r10.o.length = r10.o.length)) (allB fun h6 : Value => ifB (prB ((r1.o.length : Int) < (r10.o.length : Int))) (K (.bool false) (Fd5 ({ p.f with s0 := ({ p.f.s0 with l := p2.l } : Rl), s1 := ({ p.f.s1 with l := p4.l } : Rl), s2 := ({ p.f.s2 with l := p6.l } : Rl), s3 := ({ p.f.s3 with l := p8.l } : Rl), s4 := ({ p.f.s4 with l := p10.l } : Rl) } : F5) p.f.fly.length p.f.s0.l.length p.f.s1.l.length p.f.s2.l.length p.f.s3.l.length p.f.s4.l.length) 23) (must (prB (0 ≤ (0 : Int) ∧ (0 : Int) ≤ (r10.o.length : Int) ∧ (r10.o.length : Int) ≤ (r1.o.length : Int))) (exB fun p11 : A_eqf => must (prB (([.sy (.imm h6 18 Int r10.o encK), .sy (.imm (hsl h1 18 0 r10.o.length) 18 Int ((r1.o.drop 0).take (r10.o.length - 0)) encK), .fn 62 []], .leaf, 0) = I_eqf p11)) (must (prB (pre_eqf p11)) (allB fun r11 : R_eqf => ifB (prB (po_eqf p11 r11)) (ifB (prB (¬ r11.q)) (K (.bool false) (Fd5 ({ p.f with s0 := ({ p.f.s0 with l := p2.l } : Rl), s1 := ({ p.f.s1 with l := p4.l } : Rl), s2 := ({ p.f.s2 with l := p6.l } : Rl), s3 := ({ p.f.s3 with l := p8.l } : Rl), s4 := ({ p.f.s4 with l := p10.l } : Rl) } : F5) p.f.fly.length p.f.s0.l.length p.f.s1.l.length p.f.s2.l.length p.f.s3.l.length p.f.s4.l.length) 23) (ifB (prB ((r10.o.length : Int) < p.f.s4.com)) (K (.bool false) (Fd5 ({ p.f with s0 := ({ p.f.s0 with l := p2.l } : Rl), s1 := ({ p.f.s1 with l := p4.l } : Rl), s2 := ({ p.f.s2 with l := p6.l } : Rl), s3 := ({ p.f.s3 with l := p8.l } : Rl), s4 := ({ p.f.s4 with l := p10.l } : Rl) } : F5) p.f.fly.length p.f.s0.l.length p.f.s1.l.length p.f.s2.l.length p.f.s3.l.length p.f.s4.l.length) 23) (ifB (prB (p.f.s0.com < p.f.s4.com)) (K (.bool false) (Fd5 ({ p.f with s0 := ({ p.f.s0 with l := p2.l } : Rl), s1 := ({ p.f.s1 with l := p4.l } : Rl), s2 := ({ p.f.s2 with l := p6.l } : Rl), s3 := ({ p.f.s3 with l := p8.l } : Rl), s4 := ({ p.f.s4 with l := p10.l } : Rl) } : F5) p.f.fly.length p.f.s0.l.length p.f.s1.l.length p.f.s2.l.length p.f.s3.l.length p.f.s4.l.length) 23) (K (.bool true) (Fd5 ({ p.f with s0 := ({ p.f.s0 with l := p2.l } : Rl), s1 := ({ p.f.s1 with l := p4.l } : Rl), s2 := ({ p.f.s2 with l := p6.l } : Rl), s3 := ({ p.f.s3 with l := p8.l } : Rl), s4 := ({ p.f.s4 with l := p10.l } : Rl) } : F5) p.f.fly.length p.f.s0.l.length p.f.s1.l.length p.f.s2.l.length p.f.s3.l.length p.f.s4.l.length) 23)))) true))))))) true)))))) true))))))) true)))))) true))))))) true)))))) true))))))) true)))))) true))))))) true))))) true)))) (by kernel_rfl) ?_
  dsimp only [pre_right5] at hpre
  have hinv : FInv p.f.s0 _ _ _ := hpre
  have g : p.f.s0.l.length ≤ 400 := hinv.short
  obtain ⟨u0, v0, w0, z0⟩ : RightP p.f.s0 p.f.s0 := hinv.right (j := 0) rfl
  obtain ⟨u1, v1, w1, z1⟩ : RightP p.f.s0 p.f.s1 := hinv.right (j := 1) rfl
  obtain ⟨u2, v2, w2, z2⟩ : RightP p.f.s0 p.f.s2 := hinv.right (j := 2) rfl
  obtain ⟨u3, v3, w3, z3⟩ : RightP p.f.s0 p.f.s3 := hinv.right (j := 3) rfl
  obtain ⟨u4, v4, w4, z4⟩ : RightP p.f.s0 p.f.s4 := hinv.right (j := 4) rfl
  refine callPR (⟨p.f.s0.l⟩ : A_clones_prow) rfl (by (try dsimp only [pre_clones_prow]) ; first | omega | (simp only [List.length_take, List.length_drop] ; omega)) fun r1 hi1 => ?_
  dsimp only [po_clones_prow] at hi1
  refine mustP (rfl) ?_
  refine mustP (rfl) ?_
  refine allB_mk (fun h1 => ?_)
  refine callPR (⟨p.f.s0.l⟩ : A_clones_prow) rfl (by (try dsimp only [pre_clones_prow]) ; first | omega | (simp only [List.length_take, List.length_drop] ; omega)) fun r2 hi2 => ?_
  dsimp only [po_clones_prow] at hi2
  refine mustP (rfl) ?_
  refine mustP (rfl) ?_
  refine allB_mk (fun h2 => ?_)
  refine ifP (fun hc3 => ?_) (fun hc3 => ?_)
  first | (exfalso ; omega) | (exfalso ; exact dead_right (by assumption) (by assumption) (by assumption) (by assumption) (by assumption))
  refine mustP (by first | omega | (simp only [List.length_take, List.length_drop] ; omega)) ?_
  refine callPR (⟨h2, r2.o, hsl h1 18 0 r2.o.length, (r1.o.drop 0).take (r2.o.length - 0)⟩ : A_eqf) rfl (by (try dsimp only [pre_eqf]) ; first | omega | (simp only [List.length_take, List.length_drop] ; omega)) fun r3 hi4 => ?_
  dsimp only [po_eqf] at hi4
  refine ifP (fun hc5 => ?_) (fun hc5 => ?_)
  first | (exfalso ; omega) | (exfalso ; exact dead_right (by assumption) (by assumption) (by assumption) (by assumption) (by assumption))
  refine ifP (fun hc6 => ?_) (fun hc6 => ?_)
  first | (exfalso ; omega) | (exfalso ; exact dead_right (by assumption) (by assumption) (by assumption) (by assumption) (by assumption))
  refine ifP (fun hc7 => ?_) (fun hc7 => ?_)
  first | (exfalso ; omega) | (exfalso ; exact dead_right (by assumption) (by assumption) (by assumption) (by assumption) (by assumption))
  refine callPR (⟨p.f.s1.l⟩ : A_clones_prow) rfl (by (try dsimp only [pre_clones_prow]) ; first | omega | (simp only [List.length_take, List.length_drop] ; omega)) fun r4 hi8 => ?_
  dsimp only [po_clones_prow] at hi8
  refine mustP (rfl) ?_
  refine mustP (rfl) ?_
  refine allB_mk (fun h3 => ?_)
  refine ifP (fun hc9 => ?_) (fun hc9 => ?_)
  first | (exfalso ; omega) | (exfalso ; exact dead_right (by assumption) (by assumption) (by assumption) (by assumption) (by assumption))
  refine mustP (by first | omega | (simp only [List.length_take, List.length_drop] ; omega)) ?_
  refine callPR (⟨h3, r4.o, hsl h1 18 0 r4.o.length, (r1.o.drop 0).take (r4.o.length - 0)⟩ : A_eqf) rfl (by (try dsimp only [pre_eqf]) ; first | omega | (simp only [List.length_take, List.length_drop] ; omega)) fun r5 hi10 => ?_
  dsimp only [po_eqf] at hi10
  refine ifP (fun hc11 => ?_) (fun hc11 => ?_)
  first | (exfalso ; omega) | (exfalso ; exact dead_right (by assumption) (by assumption) (by assumption) (by assumption) (by assumption))
  refine ifP (fun hc12 => ?_) (fun hc12 => ?_)
  first | (exfalso ; omega) | (exfalso ; exact dead_right (by assumption) (by assumption) (by assumption) (by assumption) (by assumption))
  refine ifP (fun hc13 => ?_) (fun hc13 => ?_)
  first | (exfalso ; omega) | (exfalso ; exact dead_right (by assumption) (by assumption) (by assumption) (by assumption) (by assumption))
  refine callPR (⟨p.f.s2.l⟩ : A_clones_prow) rfl (by (try dsimp only [pre_clones_prow]) ; first | omega | (simp only [List.length_take, List.length_drop] ; omega)) fun r6 hi14 => ?_
  dsimp only [po_clones_prow] at hi14
  refine mustP (rfl) ?_
  refine mustP (rfl) ?_
  refine allB_mk (fun h4 => ?_)
  refine ifP (fun hc15 => ?_) (fun hc15 => ?_)
  first | (exfalso ; omega) | (exfalso ; exact dead_right (by assumption) (by assumption) (by assumption) (by assumption) (by assumption))
  refine mustP (by first | omega | (simp only [List.length_take, List.length_drop] ; omega)) ?_
  refine callPR (⟨h4, r6.o, hsl h1 18 0 r6.o.length, (r1.o.drop 0).take (r6.o.length - 0)⟩ : A_eqf) rfl (by (try dsimp only [pre_eqf]) ; first | omega | (simp only [List.length_take, List.length_drop] ; omega)) fun r7 hi16 => ?_
  dsimp only [po_eqf] at hi16
  refine ifP (fun hc17 => ?_) (fun hc17 => ?_)
  first | (exfalso ; omega) | (exfalso ; exact dead_right (by assumption) (by assumption) (by assumption) (by assumption) (by assumption))
  refine ifP (fun hc18 => ?_) (fun hc18 => ?_)
  first | (exfalso ; omega) | (exfalso ; exact dead_right (by assumption) (by assumption) (by assumption) (by assumption) (by assumption))
  refine ifP (fun hc19 => ?_) (fun hc19 => ?_)
  first | (exfalso ; omega) | (exfalso ; exact dead_right (by assumption) (by assumption) (by assumption) (by assumption) (by assumption))
  refine callPR (⟨p.f.s3.l⟩ : A_clones_prow) rfl (by (try dsimp only [pre_clones_prow]) ; first | omega | (simp only [List.length_take, List.length_drop] ; omega)) fun r8 hi20 => ?_
  dsimp only [po_clones_prow] at hi20
  refine mustP (rfl) ?_
  refine mustP (rfl) ?_
  refine allB_mk (fun h5 => ?_)
  refine ifP (fun hc21 => ?_) (fun hc21 => ?_)
  first | (exfalso ; omega) | (exfalso ; exact dead_right (by assumption) (by assumption) (by assumption) (by assumption) (by assumption))
  refine mustP (by first | omega | (simp only [List.length_take, List.length_drop] ; omega)) ?_
  refine callPR (⟨h5, r8.o, hsl h1 18 0 r8.o.length, (r1.o.drop 0).take (r8.o.length - 0)⟩ : A_eqf) rfl (by (try dsimp only [pre_eqf]) ; first | omega | (simp only [List.length_take, List.length_drop] ; omega)) fun r9 hi22 => ?_
  dsimp only [po_eqf] at hi22
  refine ifP (fun hc23 => ?_) (fun hc23 => ?_)
  first | (exfalso ; omega) | (exfalso ; exact dead_right (by assumption) (by assumption) (by assumption) (by assumption) (by assumption))
  refine ifP (fun hc24 => ?_) (fun hc24 => ?_)
  first | (exfalso ; omega) | (exfalso ; exact dead_right (by assumption) (by assumption) (by assumption) (by assumption) (by assumption))
  refine ifP (fun hc25 => ?_) (fun hc25 => ?_)
  first | (exfalso ; omega) | (exfalso ; exact dead_right (by assumption) (by assumption) (by assumption) (by assumption) (by assumption))
  refine callPR (⟨p.f.s4.l⟩ : A_clones_prow) rfl (by (try dsimp only [pre_clones_prow]) ; first | omega | (simp only [List.length_take, List.length_drop] ; omega)) fun r10 hi26 => ?_
  dsimp only [po_clones_prow] at hi26
  refine mustP (rfl) ?_
  refine mustP (rfl) ?_
  refine allB_mk (fun h6 => ?_)
  refine ifP (fun hc27 => ?_) (fun hc27 => ?_)
  first | (exfalso ; omega) | (exfalso ; exact dead_right (by assumption) (by assumption) (by assumption) (by assumption) (by assumption))
  refine mustP (by first | omega | (simp only [List.length_take, List.length_drop] ; omega)) ?_
  refine callPR (⟨h6, r10.o, hsl h1 18 0 r10.o.length, (r1.o.drop 0).take (r10.o.length - 0)⟩ : A_eqf) rfl (by (try dsimp only [pre_eqf]) ; first | omega | (simp only [List.length_take, List.length_drop] ; omega)) fun r11 hi28 => ?_
  dsimp only [po_eqf] at hi28
  refine ifP (fun hc29 => ?_) (fun hc29 => ?_)
  first | (exfalso ; omega) | (exfalso ; exact dead_right (by assumption) (by assumption) (by assumption) (by assumption) (by assumption))
  refine ifP (fun hc30 => ?_) (fun hc30 => ?_)
  first | (exfalso ; omega) | (exfalso ; exact dead_right (by assumption) (by assumption) (by assumption) (by assumption) (by assumption))
  refine ifP (fun hc31 => ?_) (fun hc31 => ?_)
  first | (exfalso ; omega) | (exfalso ; exact dead_right (by assumption) (by assumption) (by assumption) (by assumption) (by assumption))
  exact hK
noncomputable def ec_right5 : SpecE := tstE (elB 1 5) (esOf I_right5 (spP pre_right5 out_right5)) ec_right4
theorem nc_right5 : NatE Try.prog 29 1 ec_right5 := tstE_ok (natE_pl (f := 29) (k := 1) (cfT_ok nat_right4_ok) ft_right5_ok (by rfl) (by rfl) vf_right5) nc_right4
noncomputable def nat_right5 := natC nat_right4 1 ec_right5 29 [(0, 4)]
theorem nat_right5_ok : NatsOk Try.prog nat_right5 := natC_ok nc_right5 nat_right4_ok
end Go.Proofs.Try
