/- Definitions and lemmas of the proof, without a condition of their own. -/
import Derived.Test.YtkahniffcehicaaM2
import Derived.KernelRfl
namespace Go.Proofs.Try
open Go Go.RowKit Go.Sy
open Go.Eng hiding allB
set_option maxRecDepth 1000000
set_option linter.unusedVariables false
set_option maxHeartbeats 4000000
def ft_since1 : XF := .mk 49 (.two 6 7) (.aft (.seq (g_ 3 [e_ 0 4 (.box 31 (.t 1)), p_ 1 6 (.mv (i_ 0)), p_ 2 7 (.mv (.c .nilS))]) (.pre [.can 1 [0, 2, 4], .fixc 1 0 0 5] (.seq (.seq (h_ 12 [p_ 0 10 (m_ 0), c_ 1 11 34 [.t 10], p_ 2 12 (.un 0 (.t 11)), p_ 3 13 (m_ 12), pg_ 4 14 13 false (m_ 0), pg_ 5 15 13 false (n_ 14), pg_ 6 16 13 false (f_ 0 15), rg_ 7 17 13 false (.ld true 3 (.t 16)), rg_ 8 18 13 false (.ld true 2 (.t 4)), cg_ 9 19 13 false 31 [.t 17, .t 18], pg_ 10 20 13 false (.bin 3 0 (.t 19) (i_ 0)), p_ 11 21 (.pick (.t 13) (.c (.bool true)) (.t 20))]) (.cond (.t 21) (.seq (g_ 2 [p_ 0 6 (.mv (i_ 0)), p_ 1 7 (.mv (.c .nilS))]) .ret) .skip)) (.seq (h_ 7 [p_ 0 22 (m_ 0), p_ 1 23 (n_ 22), p_ 2 24 (f_ 9 23), r_ 3 25 (l_ 24), r_ 4 26 (.ld true 2 (.t 4)), r_ 5 27 (.lk 2 (.st [(0, 1, false, .int), (1, 1, false, .int)]) (o_ 0) false (.t 25) (.t 26)), p_ 6 8 (m_ 27)]) (.seq (g_ 11 [p_ 0 28 (m_ 0), p_ 1 29 (n_ 28), p_ 2 30 (f_ 5 29), r_ 3 31 (l_ 30), p_ 4 32 (k_ 31), p_ 5 33 (m_ 8), p_ 6 34 (.bin 0 1 (.t 32) (.t 33)), p_ 7 35 (m_ 2), p_ 8 36 (.mx true (.t 35) (i_ 0)), p_ 9 37 (.mx false (.t 34) (.t 36)), p_ 10 9 (m_ 37)]) (.seq (g_ 13 [p_ 0 38 (m_ 8), p_ 1 39 (m_ 0), p_ 2 40 (n_ 39), p_ 3 41 (f_ 5 40), r_ 4 42 (l_ 41), p_ 5 43 (m_ 8), p_ 6 44 (m_ 8), p_ 7 45 (m_ 9), p_ 8 46 (.bin 0 0 (.t 44) (.t 45)), r_ 9 47 (.sls 18 (.t 42) (some (.t 43)) (some (.t 46)) none), c_ 10 48 33 [.t 47], p_ 11 6 (m_ 38), p_ 12 7 (m_ 48)]) .ret)))))) [(0, [.up 6, .frz 7]), (1, [.up 6, .frz 7])])
theorem ft_since1_ok : chkF Try.prog 21 ft_since1 = true := by kernel_rfl
structure A_since1 where
 l : List Int
 com : Int
 sh : Prop
 c0 : Int
 w : Int
 mo : Int
structure R_since1 where
 h : Value
 o : List Int
 fr : Int
def po_since1 (p : A_since1) (r : R_since1) : Prop := ∃ j : Nat, j < 1 ∧ p.w = (j : Int) ∧ r.fr = [p.c0].getD j 0 ∧ r.o = (p.l.drop ([p.c0].getD j 0).toNat).take (([p.c0].getD j 0 + min ((p.l.length : Int) - [p.c0].getD j 0) (max p.mo 0)).toNat - ([p.c0].getD j 0).toNat)
noncomputable def I_since1 (p : A_since1) : IE := ([.ptr 0 0, .agg [.sy (.int 1 p.w), .int 2 (.ofNat 1)], .sy (.int 0 p.mo)], (Ro1n p.l p.com p.sh p.c0), 4)
noncomputable def out_since1 (p : A_since1) (K : KE) : Bool := allB fun r : R_since1 => iP (po_since1 p r) (K (.tup [.sy (.int 0 r.fr), .sy (.imm r.h 18 Int r.o encK)]) (Ro1n p.l p.com p.sh p.c0) 4) true
def pre_since1 (p : A_since1) : Prop := 0 ≤ p.w ∧ p.w < 1 ∧ p.l.length ≤ 1000 ∧ 0 ≤ p.c0 ∧ p.c0 ≤ (p.l.length : Int)
theorem fin_since1 {p : A_since1} {K : KE} (hK : out_since1 p K = true) (r : R_since1) (h : po_since1 p r) : K (.tup [.sy (.int 0 r.fr), .sy (.imm r.h 18 Int r.o encK)]) (Ro1n p.l p.com p.sh p.c0) 4 = true := ifB_use h (allB_ok hK r)
theorem vf_since1 (p : A_since1) (K : KE) (hpre : pre_since1 p) (hK : out_since1 p K = true) : (funE 1 (cfT nat_ack5) noLp 600 ft_since1 (I_since1 p).1 (I_since1 p).2.1 (I_since1 p).2.2 K) = true := by
 refine Eq.trans (b := (let z0 : Bool := (K (.tup [.sy (.int 0 0), .nilS]) (Ro1n p.l p.com p.sh p.c0) 4); iP (p.w = 0) (mP (InR 0 ((p.l.length : Int) - p.c0)) (mP (InR 0 (p.c0 + (min ((p.l.length : Int) - p.c0) (max p.mo (0 : Int))))) (mP (p.l.length = p.l.length ∧ 0 ≤ p.c0 ∧ p.c0 ≤ (p.c0 + (min ((p.l.length : Int) - p.c0) (max p.mo (0 : Int)))) ∧ (p.c0 + (min ((p.l.length : Int) - p.c0) (max p.mo (0 : Int)))) ≤ (p.l.length : Int)) (useC (([.sy (.psub 0 18 p.c0.toNat (((p.c0 + (min ((p.l.length : Int) - p.c0) (max p.mo (0 : Int)))).toNat) - p.c0.toNat))], (.node .leaf (some (.prow 45 18 Int p.l encK)) .leaf), 1)) I_clones_psub pre_clones_psub po_clones_psub fun p1 r1 => mP (r1.o.length = r1.o.length) (mP (r1.o.length = r1.o.length) (allB fun h1 : Value => K (.tup [.sy (.int 0 p.c0), .sy (.imm h1 18 Int r1.o encK)]) (Ro1 p1.l p.com p.sh p.c0 p.l.length) 4)))))) (iP (p.w = 1) z0 (iP (p.w = 2) z0 (iP (p.w = 3) z0 (iP (p.w = 4) z0 (mP (False) (true)))))))) (by kernel_rfl) ?_
 dsimp only [pre_since1] at hpre
 refine iI (fun hc1 => ?_) (fun hc1 => ?_)
 refine mI (by simp only [InR]; omega) (mI (by simp only [InR]; omega) (mI (by (first | omega | (simp [limP] <;> omega))) ?_))
 refine callPR (⟨p.l, p.c0.toNat, ((p.c0 + (min ((p.l.length : Int) - p.c0) (max p.mo (0 : Int)))).toNat) - p.c0.toNat⟩ : A_clones_psub) rfl (by (try dsimp only [pre_clones_psub]); first | omega | (simp only [List.length_take, List.length_drop]; omega)) fun r1 hi2 => ?_
 dsimp only [po_clones_psub] at hi2
 refine mI (rfl) (mI (rfl) ?_)
 refine allB_mk (fun h1 => ?_)
 exact fin_since1 hK ⟨h1, r1.o, p.c0⟩ (by dsimp only [po_since1] <;> (first | (exfalso; omega) | exact ⟨0, by decide, by omega, rfl, (by assumption : _ ∧ _).1⟩))
 refine iI (fun hc3 => ?_) (fun hc3 => ?_)
 exfalso; omega
 refine iI (fun hc4 => ?_) (fun hc4 => ?_)
 exfalso; omega
 refine iI (fun hc5 => ?_) (fun hc5 => ?_)
 exfalso; omega
 refine iI (fun hc6 => ?_) (fun hc6 => ?_)
 exfalso; omega
 refine mI (by omega) ?_
 rfl
noncomputable def ec_since1 : SpecE := tstE (elB 1 1) (esOf I_since1 (spP pre_since1 out_since1)) (fun _ _ _ _ => false)
theorem nc_since1 : NatE Try.prog 21 1 ec_since1 := tstE_ok (natE_pl (f := 21) (k := 1) (cfT_ok nat_ack5_ok) ft_since1_ok (by rfl) (by rfl) vf_since1) natE_no
noncomputable def nat_since1 := natC nat_ack5 1 ec_since1 21 [(0, 4), (1, 15), (2, 20)]
theorem nat_since1_ok : NatsOk Try.prog nat_since1 := natC_ok nc_since1 nat_ack5_ok
def ft_since2 : XF := ft_since1
theorem ft_since2_ok : chkF Try.prog 21 ft_since2 = true := ft_since1_ok
structure A_since2 where
 l : List Int
 com : Int
 sh : Prop
 c0 : Int
 c1 : Int
 w : Int
 mo : Int
structure R_since2 where
 h : Value
 o : List Int
 fr : Int
def po_since2 (p : A_since2) (r : R_since2) : Prop := ∃ j : Nat, j < 2 ∧ p.w = (j : Int) ∧ r.fr = [p.c0, p.c1].getD j 0 ∧ r.o = (p.l.drop ([p.c0, p.c1].getD j 0).toNat).take (([p.c0, p.c1].getD j 0 + min ((p.l.length : Int) - [p.c0, p.c1].getD j 0) (max p.mo 0)).toNat - ([p.c0, p.c1].getD j 0).toNat)
noncomputable def I_since2 (p : A_since2) : IE := ([.ptr 0 0, .agg [.sy (.int 1 p.w), .int 2 (.ofNat 1)], .sy (.int 0 p.mo)], (Ro2n p.l p.com p.sh p.c0 p.c1), 4)
noncomputable def out_since2 (p : A_since2) (K : KE) : Bool := allB fun r : R_since2 => iP (po_since2 p r) (K (.tup [.sy (.int 0 r.fr), .sy (.imm r.h 18 Int r.o encK)]) (Ro2n p.l p.com p.sh p.c0 p.c1) 4) true
def pre_since2 (p : A_since2) : Prop := 0 ≤ p.w ∧ p.w < 2 ∧ p.l.length ≤ 1000 ∧ 0 ≤ p.c0 ∧ p.c0 ≤ (p.l.length : Int) ∧ 0 ≤ p.c1 ∧ p.c1 ≤ (p.l.length : Int)
theorem fin_since2 {p : A_since2} {K : KE} (hK : out_since2 p K = true) (r : R_since2) (h : po_since2 p r) : K (.tup [.sy (.int 0 r.fr), .sy (.imm r.h 18 Int r.o encK)]) (Ro2n p.l p.com p.sh p.c0 p.c1) 4 = true := ifB_use h (allB_ok hK r)
theorem vf_since2 (p : A_since2) (K : KE) (hpre : pre_since2 p) (hK : out_since2 p K = true) : (funE 1 (cfT nat_since1) noLp 600 ft_since2 (I_since2 p).1 (I_since2 p).2.1 (I_since2 p).2.2 K) = true := by
 refine Eq.trans (b := (let z0 : Bool := (K (.tup [.sy (.int 0 0), .nilS]) (Ro2n p.l p.com p.sh p.c0 p.c1) 4); iP (p.w = 0) (mP (InR 0 ((p.l.length : Int) - p.c0)) (mP (InR 0 (p.c0 + (min ((p.l.length : Int) - p.c0) (max p.mo (0 : Int))))) (mP (p.l.length = p.l.length ∧ 0 ≤ p.c0 ∧ p.c0 ≤ (p.c0 + (min ((p.l.length : Int) - p.c0) (max p.mo (0 : Int)))) ∧ (p.c0 + (min ((p.l.length : Int) - p.c0) (max p.mo (0 : Int)))) ≤ (p.l.length : Int)) (useC (([.sy (.psub 0 18 p.c0.toNat (((p.c0 + (min ((p.l.length : Int) - p.c0) (max p.mo (0 : Int)))).toNat) - p.c0.toNat))], (.node .leaf (some (.prow 45 18 Int p.l encK)) .leaf), 1)) I_clones_psub pre_clones_psub po_clones_psub fun p2 r2 => mP (r2.o.length = r2.o.length) (mP (r2.o.length = r2.o.length) (allB fun h2 : Value => K (.tup [.sy (.int 0 p.c0), .sy (.imm h2 18 Int r2.o encK)]) (Ro2 p2.l p.com p.sh p.c0 p.c1 p.l.length) 4)))))) (iP (p.w = 1) (mP (InR 0 ((p.l.length : Int) - p.c1)) (mP (InR 0 (p.c1 + (min ((p.l.length : Int) - p.c1) (max p.mo (0 : Int))))) (mP (p.l.length = p.l.length ∧ 0 ≤ p.c1 ∧ p.c1 ≤ (p.c1 + (min ((p.l.length : Int) - p.c1) (max p.mo (0 : Int)))) ∧ (p.c1 + (min ((p.l.length : Int) - p.c1) (max p.mo (0 : Int)))) ≤ (p.l.length : Int)) (useC (([.sy (.psub 0 18 p.c1.toNat (((p.c1 + (min ((p.l.length : Int) - p.c1) (max p.mo (0 : Int)))).toNat) - p.c1.toNat))], (.node .leaf (some (.prow 45 18 Int p.l encK)) .leaf), 1)) I_clones_psub pre_clones_psub po_clones_psub fun p1 r1 => mP (r1.o.length = r1.o.length) (mP (r1.o.length = r1.o.length) (allB fun h1 : Value => K (.tup [.sy (.int 0 p.c1), .sy (.imm h1 18 Int r1.o encK)]) (Ro2 p1.l p.com p.sh p.c0 p.c1 p.l.length) 4)))))) (iP (p.w = 2) z0 (iP (p.w = 3) z0 (iP (p.w = 4) z0 (mP (False) (true)))))))) (by kernel_rfl) ?_
 dsimp only [pre_since2] at hpre
 refine iI (fun hc1 => ?_) (fun hc1 => ?_)
 refine mI (by simp only [InR]; omega) (mI (by simp only [InR]; omega) (mI (by (first | omega | (simp [limP] <;> omega))) ?_))
 refine callPR (⟨p.l, p.c0.toNat, ((p.c0 + (min ((p.l.length : Int) - p.c0) (max p.mo (0 : Int)))).toNat) - p.c0.toNat⟩ : A_clones_psub) rfl (by (try dsimp only [pre_clones_psub]); first | omega | (simp only [List.length_take, List.length_drop]; omega)) fun r2 hi2 => ?_
 dsimp only [po_clones_psub] at hi2
 refine mI (rfl) (mI (rfl) ?_)
 refine allB_mk (fun h2 => ?_)
 exact fin_since2 hK ⟨h2, r2.o, p.c0⟩ (by dsimp only [po_since2] <;> (first | (exfalso; omega) | exact ⟨0, by decide, by omega, rfl, (by assumption : _ ∧ _).1⟩ | exact ⟨1, by decide, by omega, rfl, (by assumption : _ ∧ _).1⟩))
 refine iI (fun hc3 => ?_) (fun hc3 => ?_)
 refine mI (by simp only [InR]; omega) (mI (by simp only [InR]; omega) (mI (by (first | omega | (simp [limP] <;> omega))) ?_))
 refine callPR (⟨p.l, p.c1.toNat, ((p.c1 + (min ((p.l.length : Int) - p.c1) (max p.mo (0 : Int)))).toNat) - p.c1.toNat⟩ : A_clones_psub) rfl (by (try dsimp only [pre_clones_psub]); first | omega | (simp only [List.length_take, List.length_drop]; omega)) fun r1 hi4 => ?_
 dsimp only [po_clones_psub] at hi4
 refine mI (rfl) (mI (rfl) ?_)
 refine allB_mk (fun h1 => ?_)
 exact fin_since2 hK ⟨h1, r1.o, p.c1⟩ (by dsimp only [po_since2] <;> (first | (exfalso; omega) | exact ⟨0, by decide, by omega, rfl, (by assumption : _ ∧ _).1⟩ | exact ⟨1, by decide, by omega, rfl, (by assumption : _ ∧ _).1⟩))
 refine iI (fun hc5 => ?_) (fun hc5 => ?_)
 exfalso; omega
 refine iI (fun hc6 => ?_) (fun hc6 => ?_)
 exfalso; omega
 refine iI (fun hc7 => ?_) (fun hc7 => ?_)
 exfalso; omega
 refine mI (by omega) ?_
 rfl
noncomputable def ec_since2 : SpecE := tstE (elB 1 2) (esOf I_since2 (spP pre_since2 out_since2)) ec_since1
theorem nc_since2 : NatE Try.prog 21 1 ec_since2 := tstE_ok (natE_pl (f := 21) (k := 1) (cfT_ok nat_since1_ok) ft_since2_ok (by rfl) (by rfl) vf_since2) nc_since1
noncomputable def nat_since2 := natC nat_since1 1 ec_since2 21 [(0, 4), (1, 15), (2, 20)]
theorem nat_since2_ok : NatsOk Try.prog nat_since2 := natC_ok nc_since2 nat_since1_ok
def ft_since3 : XF := ft_since1
theorem ft_since3_ok : chkF Try.prog 21 ft_since3 = true := ft_since1_ok
structure A_since3 where
 l : List Int
 com : Int
 sh : Prop
 c0 : Int
 c1 : Int
 c2 : Int
 w : Int
 mo : Int
structure R_since3 where
 h : Value
 o : List Int
 fr : Int
def po_since3 (p : A_since3) (r : R_since3) : Prop := ∃ j : Nat, j < 3 ∧ p.w = (j : Int) ∧ r.fr = [p.c0, p.c1, p.c2].getD j 0 ∧ r.o = (p.l.drop ([p.c0, p.c1, p.c2].getD j 0).toNat).take (([p.c0, p.c1, p.c2].getD j 0 + min ((p.l.length : Int) - [p.c0, p.c1, p.c2].getD j 0) (max p.mo 0)).toNat - ([p.c0, p.c1, p.c2].getD j 0).toNat)
noncomputable def I_since3 (p : A_since3) : IE := ([.ptr 0 0, .agg [.sy (.int 1 p.w), .int 2 (.ofNat 1)], .sy (.int 0 p.mo)], (Ro3n p.l p.com p.sh p.c0 p.c1 p.c2), 4)
noncomputable def out_since3 (p : A_since3) (K : KE) : Bool := allB fun r : R_since3 => iP (po_since3 p r) (K (.tup [.sy (.int 0 r.fr), .sy (.imm r.h 18 Int r.o encK)]) (Ro3n p.l p.com p.sh p.c0 p.c1 p.c2) 4) true
def pre_since3 (p : A_since3) : Prop := 0 ≤ p.w ∧ p.w < 3 ∧ p.l.length ≤ 1000 ∧ 0 ≤ p.c0 ∧ p.c0 ≤ (p.l.length : Int) ∧ 0 ≤ p.c1 ∧ p.c1 ≤ (p.l.length : Int) ∧ 0 ≤ p.c2 ∧ p.c2 ≤ (p.l.length : Int)
theorem fin_since3 {p : A_since3} {K : KE} (hK : out_since3 p K = true) (r : R_since3) (h : po_since3 p r) : K (.tup [.sy (.int 0 r.fr), .sy (.imm r.h 18 Int r.o encK)]) (Ro3n p.l p.com p.sh p.c0 p.c1 p.c2) 4 = true := ifB_use h (allB_ok hK r)
theorem vf_since3 (p : A_since3) (K : KE) (hpre : pre_since3 p) (hK : out_since3 p K = true) : (funE 1 (cfT nat_since2) noLp 600 ft_since3 (I_since3 p).1 (I_since3 p).2.1 (I_since3 p).2.2 K) = true := by
 refine Eq.trans (b := (let z0 : Bool := (K (.tup [.sy (.int 0 0), .nilS]) (Ro3n p.l p.com p.sh p.c0 p.c1 p.c2) 4); iP (p.w = 0) (mP (InR 0 ((p.l.length : Int) - p.c0)) (mP (InR 0 (p.c0 + (min ((p.l.length : Int) - p.c0) (max p.mo (0 : Int))))) (mP (p.l.length = p.l.length ∧ 0 ≤ p.c0 ∧ p.c0 ≤ (p.c0 + (min ((p.l.length : Int) - p.c0) (max p.mo (0 : Int)))) ∧ (p.c0 + (min ((p.l.length : Int) - p.c0) (max p.mo (0 : Int)))) ≤ (p.l.length : Int)) (useC (([.sy (.psub 0 18 p.c0.toNat (((p.c0 + (min ((p.l.length : Int) - p.c0) (max p.mo (0 : Int)))).toNat) - p.c0.toNat))], (.node .leaf (some (.prow 45 18 Int p.l encK)) .leaf), 1)) I_clones_psub pre_clones_psub po_clones_psub fun p3 r3 => mP (r3.o.length = r3.o.length) (mP (r3.o.length = r3.o.length) (allB fun h3 : Value => K (.tup [.sy (.int 0 p.c0), .sy (.imm h3 18 Int r3.o encK)]) (Ro3 p3.l p.com p.sh p.c0 p.c1 p.c2 p.l.length) 4)))))) (iP (p.w = 1) (mP (InR 0 ((p.l.length : Int) - p.c1)) (mP (InR 0 (p.c1 + (min ((p.l.length : Int) - p.c1) (max p.mo (0 : Int))))) (mP (p.l.length = p.l.length ∧ 0 ≤ p.c1 ∧ p.c1 ≤ (p.c1 + (min ((p.l.length : Int) - p.c1) (max p.mo (0 : Int)))) ∧ (p.c1 + (min ((p.l.length : Int) - p.c1) (max p.mo (0 : Int)))) ≤ (p.l.length : Int)) (useC (([.sy (.psub 0 18 p.c1.toNat (((p.c1 + (min ((p.l.length : Int) - p.c1) (max p.mo (0 : Int)))).toNat) - p.c1.toNat))], (.node .leaf (some (.prow 45 18 Int p.l encK)) .leaf), 1)) I_clones_psub pre_clones_psub po_clones_psub fun p2 r2 => mP (r2.o.length = r2.o.length) (mP (r2.o.length = r2.o.length) (allB fun h2 : Value => K (.tup [.sy (.int 0 p.c1), .sy (.imm h2 18 Int r2.o encK)]) (Ro3 p2.l p.com p.sh p.c0 p.c1 p.c2 p.l.length) 4)))))) (iP (p.w = 2) (mP (InR 0 ((p.l.length : Int) - p.c2)) (mP (InR 0 (p.c2 + (min ((p.l.length : Int) - p.c2) (max p.mo (0 : Int))))) (mP (p.l.length = p.l.length ∧ 0 ≤ p.c2 ∧ p.c2 ≤ (p.c2 + (min ((p.l.length : Int) - p.c2) (max p.mo (0 : Int)))) ∧ (p.c2 + (min ((p.l.length : Int) - p.c2) (max p.mo (0 : Int)))) ≤ (p.l.length : Int)) (useC (([.sy (.psub 0 18 p.c2.toNat (((p.c2 + (min ((p.l.length : Int) - p.c2) (max p.mo (0 : Int)))).toNat) - p.c2.toNat))], (.node .leaf (some (.prow 45 18 Int p.l encK)) .leaf), 1)) I_clones_psub pre_clones_psub po_clones_psub fun p1 r1 => mP (r1.o.length = r1.o.length) (mP (r1.o.length = r1.o.length) (allB fun h1 : Value => K (.tup [.sy (.int 0 p.c2), .sy (.imm h1 18 Int r1.o encK)]) (Ro3 p1.l p.com p.sh p.c0 p.c1 p.c2 p.l.length) 4)))))) (iP (p.w = 3) z0 (iP (p.w = 4) z0 (mP (False) (true)))))))) (by kernel_rfl) ?_
 dsimp only [pre_since3] at hpre
 refine iI (fun hc1 => ?_) (fun hc1 => ?_)
 refine mI (by simp only [InR]; omega) (mI (by simp only [InR]; omega) (mI (by (first | omega | (simp [limP] <;> omega))) ?_))
 refine callPR (⟨p.l, p.c0.toNat, ((p.c0 + (min ((p.l.length : Int) - p.c0) (max p.mo (0 : Int)))).toNat) - p.c0.toNat⟩ : A_clones_psub) rfl (by (try dsimp only [pre_clones_psub]); first | omega | (simp only [List.length_take, List.length_drop]; omega)) fun r3 hi2 => ?_
 dsimp only [po_clones_psub] at hi2
 refine mI (rfl) (mI (rfl) ?_)
 refine allB_mk (fun h3 => ?_)
 exact fin_since3 hK ⟨h3, r3.o, p.c0⟩ (by dsimp only [po_since3] <;> (first | (exfalso; omega) | exact ⟨0, by decide, by omega, rfl, (by assumption : _ ∧ _).1⟩ | exact ⟨1, by decide, by omega, rfl, (by assumption : _ ∧ _).1⟩ | exact ⟨2, by decide, by omega, rfl, (by assumption : _ ∧ _).1⟩))
 refine iI (fun hc3 => ?_) (fun hc3 => ?_)
 refine mI (by simp only [InR]; omega) (mI (by simp only [InR]; omega) (mI (by (first | omega | (simp [limP] <;> omega))) ?_))
 refine callPR (⟨p.l, p.c1.toNat, ((p.c1 + (min ((p.l.length : Int) - p.c1) (max p.mo (0 : Int)))).toNat) - p.c1.toNat⟩ : A_clones_psub) rfl (by (try dsimp only [pre_clones_psub]); first | omega | (simp only [List.length_take, List.length_drop]; omega)) fun r2 hi4 => ?_
 dsimp only [po_clones_psub] at hi4
 refine mI (rfl) (mI (rfl) ?_)
 refine allB_mk (fun h2 => ?_)
 exact fin_since3 hK ⟨h2, r2.o, p.c1⟩ (by dsimp only [po_since3] <;> (first | (exfalso; omega) | exact ⟨0, by decide, by omega, rfl, (by assumption : _ ∧ _).1⟩ | exact ⟨1, by decide, by omega, rfl, (by assumption : _ ∧ _).1⟩ | exact ⟨2, by decide, by omega, rfl, (by assumption : _ ∧ _).1⟩))
 refine iI (fun hc5 => ?_) (fun hc5 => ?_)
 refine mI (by simp only [InR]; omega) (mI (by simp only [InR]; omega) (mI (by (first | omega | (simp [limP] <;> omega))) ?_))
 refine callPR (⟨p.l, p.c2.toNat, ((p.c2 + (min ((p.l.length : Int) - p.c2) (max p.mo (0 : Int)))).toNat) - p.c2.toNat⟩ : A_clones_psub) rfl (by (try dsimp only [pre_clones_psub]); first | omega | (simp only [List.length_take, List.length_drop]; omega)) fun r1 hi6 => ?_
 dsimp only [po_clones_psub] at hi6
 refine mI (rfl) (mI (rfl) ?_)
 refine allB_mk (fun h1 => ?_)
 exact fin_since3 hK ⟨h1, r1.o, p.c2⟩ (by dsimp only [po_since3] <;> (first | (exfalso; omega) | exact ⟨0, by decide, by omega, rfl, (by assumption : _ ∧ _).1⟩ | exact ⟨1, by decide, by omega, rfl, (by assumption : _ ∧ _).1⟩ | exact ⟨2, by decide, by omega, rfl, (by assumption : _ ∧ _).1⟩))
 refine iI (fun hc7 => ?_) (fun hc7 => ?_)
 exfalso; omega
 refine iI (fun hc8 => ?_) (fun hc8 => ?_)
 exfalso; omega
 refine mI (by omega) ?_
 rfl
noncomputable def ec_since3 : SpecE := tstE (elB 1 3) (esOf I_since3 (spP pre_since3 out_since3)) ec_since2
theorem nc_since3 : NatE Try.prog 21 1 ec_since3 := tstE_ok (natE_pl (f := 21) (k := 1) (cfT_ok nat_since2_ok) ft_since3_ok (by rfl) (by rfl) vf_since3) nc_since2
noncomputable def nat_since3 := natC nat_since2 1 ec_since3 21 [(0, 4), (1, 15), (2, 20)]
theorem nat_since3_ok : NatsOk Try.prog nat_since3 := natC_ok nc_since3 nat_since2_ok
def ft_since4 : XF := ft_since1
theorem ft_since4_ok : chkF Try.prog 21 ft_since4 = true := ft_since1_ok
structure A_since4 where
 l : List Int
 com : Int
 sh : Prop
 c0 : Int
 c1 : Int
 c2 : Int
 c3 : Int
 w : Int
 mo : Int
structure R_since4 where
 h : Value
 o : List Int
 fr : Int
def po_since4 (p : A_since4) (r : R_since4) : Prop := ∃ j : Nat, j < 4 ∧ p.w = (j : Int) ∧ r.fr = [p.c0, p.c1, p.c2, p.c3].getD j 0 ∧ r.o = (p.l.drop ([p.c0, p.c1, p.c2, p.c3].getD j 0).toNat).take (([p.c0, p.c1, p.c2, p.c3].getD j 0 + min ((p.l.length : Int) - [p.c0, p.c1, p.c2, p.c3].getD j 0) (max p.mo 0)).toNat - ([p.c0, p.c1, p.c2, p.c3].getD j 0).toNat)
noncomputable def I_since4 (p : A_since4) : IE := ([.ptr 0 0, .agg [.sy (.int 1 p.w), .int 2 (.ofNat 1)], .sy (.int 0 p.mo)], (Ro4n p.l p.com p.sh p.c0 p.c1 p.c2 p.c3), 4)
noncomputable def out_since4 (p : A_since4) (K : KE) : Bool := allB fun r : R_since4 => iP (po_since4 p r) (K (.tup [.sy (.int 0 r.fr), .sy (.imm r.h 18 Int r.o encK)]) (Ro4n p.l p.com p.sh p.c0 p.c1 p.c2 p.c3) 4) true
def pre_since4 (p : A_since4) : Prop := 0 ≤ p.w ∧ p.w < 4 ∧ p.l.length ≤ 1000 ∧ 0 ≤ p.c0 ∧ p.c0 ≤ (p.l.length : Int) ∧ 0 ≤ p.c1 ∧ p.c1 ≤ (p.l.length : Int) ∧ 0 ≤ p.c2 ∧ p.c2 ≤ (p.l.length : Int) ∧ 0 ≤ p.c3 ∧ p.c3 ≤ (p.l.length : Int)
theorem fin_since4 {p : A_since4} {K : KE} (hK : out_since4 p K = true) (r : R_since4) (h : po_since4 p r) : K (.tup [.sy (.int 0 r.fr), .sy (.imm r.h 18 Int r.o encK)]) (Ro4n p.l p.com p.sh p.c0 p.c1 p.c2 p.c3) 4 = true := ifB_use h (allB_ok hK r)
theorem vf_since4 (p : A_since4) (K : KE) (hpre : pre_since4 p) (hK : out_since4 p K = true) : (funE 1 (cfT nat_since3) noLp 600 ft_since4 (I_since4 p).1 (I_since4 p).2.1 (I_since4 p).2.2 K) = true := by
 refine Eq.trans (b := (iP (p.w = 0) (mP (InR 0 ((p.l.length : Int) - p.c0)) (mP (InR 0 (p.c0 + (min ((p.l.length : Int) - p.c0) (max p.mo (0 : Int))))) (mP (p.l.length = p.l.length ∧ 0 ≤ p.c0 ∧ p.c0 ≤ (p.c0 + (min ((p.l.length : Int) - p.c0) (max p.mo (0 : Int)))) ∧ (p.c0 + (min ((p.l.length : Int) - p.c0) (max p.mo (0 : Int)))) ≤ (p.l.length : Int)) (useC (([.sy (.psub 0 18 p.c0.toNat (((p.c0 + (min ((p.l.length : Int) - p.c0) (max p.mo (0 : Int)))).toNat) - p.c0.toNat))], (.node .leaf (some (.prow 45 18 Int p.l encK)) .leaf), 1)) I_clones_psub pre_clones_psub po_clones_psub fun p4 r4 => mP (r4.o.length = r4.o.length) (mP (r4.o.length = r4.o.length) (allB fun h4 : Value => K (.tup [.sy (.int 0 p.c0), .sy (.imm h4 18 Int r4.o encK)]) (Ro4 p4.l p.com p.sh p.c0 p.c1 p.c2 p.c3 p.l.length) 4)))))) (iP (p.w = 1) (mP (InR 0 ((p.l.length : Int) - p.c1)) (mP (InR 0 (p.c1 + (min ((p.l.length : Int) - p.c1) (max p.mo (0 : Int))))) (mP (p.l.length = p.l.length ∧ 0 ≤ p.c1 ∧ p.c1 ≤ (p.c1 + (min ((p.l.length : Int) - p.c1) (max p.mo (0 : Int)))) ∧ (p.c1 + (min ((p.l.length : Int) - p.c1) (max p.mo (0 : Int)))) ≤ (p.l.length : Int)) (useC (([.sy (.psub 0 18 p.c1.toNat (((p.c1 + (min ((p.l.length : Int) - p.c1) (max p.mo (0 : Int)))).toNat) - p.c1.toNat))], (.node .leaf (some (.prow 45 18 Int p.l encK)) .leaf), 1)) I_clones_psub pre_clones_psub po_clones_psub fun p3 r3 => mP (r3.o.length = r3.o.length) (mP (r3.o.length = r3.o.length) (allB fun h3 : Value => K (.tup [.sy (.int 0 p.c1), .sy (.imm h3 18 Int r3.o encK)]) (Ro4 p3.l p.com p.sh p.c0 p.c1 p.c2 p.c3 p.l.length) 4)))))) (iP (p.w = 2) (mP (InR 0 ((p.l.length : Int) - p.c2)) (mP (InR 0 (p.c2 + (min ((p.l.length : Int) - p.c2) (max p.mo (0 : Int))))) (mP (p.l.length = p.l.length ∧ 0 ≤ p.c2 ∧ p.c2 ≤ (p.c2 + (min ((p.l.length : Int) - p.c2) (max p.mo (0 : Int)))) ∧ (p.c2 + (min ((p.l.length : Int) - p.c2) (max p.mo (0 : Int)))) ≤ (p.l.length : Int)) (useC (([.sy (.psub 0 18 p.c2.toNat (((p.c2 + (min ((p.l.length : Int) - p.c2) (max p.mo (0 : Int)))).toNat) - p.c2.toNat))], (.node .leaf (some (.prow 45 18 Int p.l encK)) .leaf), 1)) I_clones_psub pre_clones_psub po_clones_psub fun p2 r2 => mP (r2.o.length = r2.o.length) (mP (r2.o.length = r2.o.length) (allB fun h2 : Value => K (.tup [.sy (.int 0 p.c2), .sy (.imm h2 18 Int r2.o encK)]) (Ro4 p2.l p.com p.sh p.c0 p.c1 p.c2 p.c3 p.l.length) 4)))))) (iP (p.w = 3) (mP (InR 0 ((p.l.length : Int) - p.c3)) (mP (InR 0 (p.c3 + (min ((p.l.length : Int) - p.c3) (max p.mo (0 : Int))))) (mP (p.l.length = p.l.length ∧ 0 ≤ p.c3 ∧ p.c3 ≤ (p.c3 + (min ((p.l.length : Int) - p.c3) (max p.mo (0 : Int)))) ∧ (p.c3 + (min ((p.l.length : Int) - p.c3) (max p.mo (0 : Int)))) ≤ (p.l.length : Int)) (useC (([.sy (.psub 0 18 p.c3.toNat (((p.c3 + (min ((p.l.length : Int) - p.c3) (max p.mo (0 : Int)))).toNat) - p.c3.toNat))], (.node .leaf (some (.prow 45 18 Int p.l encK)) .leaf), 1)) I_clones_psub pre_clones_psub po_clones_psub fun p1 r1 => mP (r1.o.length = r1.o.length) (mP (r1.o.length = r1.o.length) (allB fun h1 : Value => K (.tup [.sy (.int 0 p.c3), .sy (.imm h1 18 Int r1.o encK)]) (Ro4 p1.l p.com p.sh p.c0 p.c1 p.c2 p.c3 p.l.length) 4)))))) (iP (p.w = 4) (K (.tup [.sy (.int 0 0), .nilS]) (Ro4n p.l p.com p.sh p.c0 p.c1 p.c2 p.c3) 4) (mP (False) (true)))))))) (by kernel_rfl) ?_
 dsimp only [pre_since4] at hpre
 refine iI (fun hc1 => ?_) (fun hc1 => ?_)
 refine mI (by simp only [InR]; omega) (mI (by simp only [InR]; omega) (mI (by (first | omega | (simp [limP] <;> omega))) ?_))
 refine callPR (⟨p.l, p.c0.toNat, ((p.c0 + (min ((p.l.length : Int) - p.c0) (max p.mo (0 : Int)))).toNat) - p.c0.toNat⟩ : A_clones_psub) rfl (by (try dsimp only [pre_clones_psub]); first | omega | (simp only [List.length_take, List.length_drop]; omega)) fun r4 hi2 => ?_
 dsimp only [po_clones_psub] at hi2
 refine mI (rfl) (mI (rfl) ?_)
 refine allB_mk (fun h4 => ?_)
 exact fin_since4 hK ⟨h4, r4.o, p.c0⟩ (by dsimp only [po_since4] <;> (first | (exfalso; omega) | exact ⟨0, by decide, by omega, rfl, (by assumption : _ ∧ _).1⟩ | exact ⟨1, by decide, by omega, rfl, (by assumption : _ ∧ _).1⟩ | exact ⟨2, by decide, by omega, rfl, (by assumption : _ ∧ _).1⟩ | exact ⟨3, by decide, by omega, rfl, (by assumption : _ ∧ _).1⟩))
 refine iI (fun hc3 => ?_) (fun hc3 => ?_)
 refine mI (by simp only [InR]; omega) (mI (by simp only [InR]; omega) (mI (by (first | omega | (simp [limP] <;> omega))) ?_))
 refine callPR (⟨p.l, p.c1.toNat, ((p.c1 + (min ((p.l.length : Int) - p.c1) (max p.mo (0 : Int)))).toNat) - p.c1.toNat⟩ : A_clones_psub) rfl (by (try dsimp only [pre_clones_psub]); first | omega | (simp only [List.length_take, List.length_drop]; omega)) fun r3 hi4 => ?_
 dsimp only [po_clones_psub] at hi4
 refine mI (rfl) (mI (rfl) ?_)
 refine allB_mk (fun h3 => ?_)
 exact fin_since4 hK ⟨h3, r3.o, p.c1⟩ (by dsimp only [po_since4] <;> (first | (exfalso; omega) | exact ⟨0, by decide, by omega, rfl, (by assumption : _ ∧ _).1⟩ | exact ⟨1, by decide, by omega, rfl, (by assumption : _ ∧ _).1⟩ | exact ⟨2, by decide, by omega, rfl, (by assumption : _ ∧ _).1⟩ | exact ⟨3, by decide, by omega, rfl, (by assumption : _ ∧ _).1⟩))
 refine iI (fun hc5 => ?_) (fun hc5 => ?_)
 refine mI (by simp only [InR]; omega) (mI (by simp only [InR]; omega) (mI (by (first | omega | (simp [limP] <;> omega))) ?_))
 refine callPR (⟨p.l, p.c2.toNat, ((p.c2 + (min ((p.l.length : Int) - p.c2) (max p.mo (0 : Int)))).toNat) - p.c2.toNat⟩ : A_clones_psub) rfl (by (try dsimp only [pre_clones_psub]); first | omega | (simp only [List.length_take, List.length_drop]; omega)) fun r2 hi6 => ?_
 dsimp only [po_clones_psub] at hi6
 refine mI (rfl) (mI (rfl) ?_)
 refine allB_mk (fun h2 => ?_)
 exact fin_since4 hK ⟨h2, r2.o, p.c2⟩ (by dsimp only [po_since4] <;> (first | (exfalso; omega) | exact ⟨0, by decide, by omega, rfl, (by assumption : _ ∧ _).1⟩ | exact ⟨1, by decide, by omega, rfl, (by assumption : _ ∧ _).1⟩ | exact ⟨2, by decide, by omega, rfl, (by assumption : _ ∧ _).1⟩ | exact ⟨3, by decide, by omega, rfl, (by assumption : _ ∧ _).1⟩))
 refine iI (fun hc7 => ?_) (fun hc7 => ?_)
 refine mI (by simp only [InR]; omega) (mI (by simp only [InR]; omega) (mI (by (first | omega | (simp [limP] <;> omega))) ?_))
 refine callPR (⟨p.l, p.c3.toNat, ((p.c3 + (min ((p.l.length : Int) - p.c3) (max p.mo (0 : Int)))).toNat) - p.c3.toNat⟩ : A_clones_psub) rfl (by (try dsimp only [pre_clones_psub]); first | omega | (simp only [List.length_take, List.length_drop]; omega)) fun r1 hi8 => ?_
 dsimp only [po_clones_psub] at hi8
 refine mI (rfl) (mI (rfl) ?_)
 refine allB_mk (fun h1 => ?_)
 exact fin_since4 hK ⟨h1, r1.o, p.c3⟩ (by dsimp only [po_since4] <;> (first | (exfalso; omega) | exact ⟨0, by decide, by omega, rfl, (by assumption : _ ∧ _).1⟩ | exact ⟨1, by decide, by omega, rfl, (by assumption : _ ∧ _).1⟩ | exact ⟨2, by decide, by omega, rfl, (by assumption : _ ∧ _).1⟩ | exact ⟨3, by decide, by omega, rfl, (by assumption : _ ∧ _).1⟩))
 refine iI (fun hc9 => ?_) (fun hc9 => ?_)
 exfalso; omega
 refine mI (by omega) ?_
 rfl
noncomputable def ec_since4 : SpecE := tstE (elB 1 4) (esOf I_since4 (spP pre_since4 out_since4)) ec_since3
theorem nc_since4 : NatE Try.prog 21 1 ec_since4 := tstE_ok (natE_pl (f := 21) (k := 1) (cfT_ok nat_since3_ok) ft_since4_ok (by rfl) (by rfl) vf_since4) nc_since3
noncomputable def nat_since4 := natC nat_since3 1 ec_since4 21 [(0, 4), (1, 15), (2, 20)]
theorem nat_since4_ok : NatsOk Try.prog nat_since4 := natC_ok nc_since4 nat_since3_ok
def ft_since5 : XF := ft_since1
theorem ft_since5_ok : chkF Try.prog 21 ft_since5 = true := ft_since1_ok
structure A_since5 where
 l : List Int
 com : Int
 sh : Prop
 c0 : Int
 c1 : Int
 c2 : Int
 c3 : Int
 c4 : Int
 w : Int
 mo : Int
structure R_since5 where
 h : Value
 o : List Int
 fr : Int
def po_since5 (p : A_since5) (r : R_since5) : Prop := ∃ j : Nat, j < 5 ∧ p.w = (j : Int) ∧ r.fr = [p.c0, p.c1, p.c2, p.c3, p.c4].getD j 0 ∧ r.o = (p.l.drop ([p.c0, p.c1, p.c2, p.c3, p.c4].getD j 0).toNat).take (([p.c0, p.c1, p.c2, p.c3, p.c4].getD j 0 + min ((p.l.length : Int) - [p.c0, p.c1, p.c2, p.c3, p.c4].getD j 0) (max p.mo 0)).toNat - ([p.c0, p.c1, p.c2, p.c3, p.c4].getD j 0).toNat)
noncomputable def I_since5 (p : A_since5) : IE := ([.ptr 0 0, .agg [.sy (.int 1 p.w), .int 2 (.ofNat 1)], .sy (.int 0 p.mo)], (Ro5n p.l p.com p.sh p.c0 p.c1 p.c2 p.c3 p.c4), 4)
noncomputable def out_since5 (p : A_since5) (K : KE) : Bool := allB fun r : R_since5 => iP (po_since5 p r) (K (.tup [.sy (.int 0 r.fr), .sy (.imm r.h 18 Int r.o encK)]) (Ro5n p.l p.com p.sh p.c0 p.c1 p.c2 p.c3 p.c4) 4) true
def pre_since5 (p : A_since5) : Prop := 0 ≤ p.w ∧ p.w < 5 ∧ p.l.length ≤ 1000 ∧ 0 ≤ p.c0 ∧ p.c0 ≤ (p.l.length : Int) ∧ 0 ≤ p.c1 ∧ p.c1 ≤ (p.l.length : Int) ∧ 0 ≤ p.c2 ∧ p.c2 ≤ (p.l.length : Int) ∧ 0 ≤ p.c3 ∧ p.c3 ≤ (p.l.length : Int) ∧ 0 ≤ p.c4 ∧ p.c4 ≤ (p.l.length : Int)
theorem fin_since5 {p : A_since5} {K : KE} (hK : out_since5 p K = true) (r : R_since5) (h : po_since5 p r) : K (.tup [.sy (.int 0 r.fr), .sy (.imm r.h 18 Int r.o encK)]) (Ro5n p.l p.com p.sh p.c0 p.c1 p.c2 p.c3 p.c4) 4 = true := ifB_use h (allB_ok hK r)
theorem vf_since5 (p : A_since5) (K : KE) (hpre : pre_since5 p) (hK : out_since5 p K = true) : (funE 1 (cfT nat_since4) noLp 600 ft_since5 (I_since5 p).1 (I_since5 p).2.1 (I_since5 p).2.2 K) = true := by
 refine Eq.trans (b := (iP (p.w = 0) (mP (InR 0 ((p.l.length : Int) - p.c0)) (mP (InR 0 (p.c0 + (min ((p.l.length : Int) - p.c0) (max p.mo (0 : Int))))) (mP (p.l.length = p.l.length ∧ 0 ≤ p.c0 ∧ p.c0 ≤ (p.c0 + (min ((p.l.length : Int) - p.c0) (max p.mo (0 : Int)))) ∧ (p.c0 + (min ((p.l.length : Int) - p.c0) (max p.mo (0 : Int)))) ≤ (p.l.length : Int)) (useC (([.sy (.psub 0 18 p.c0.toNat (((p.c0 + (min ((p.l.length : Int) - p.c0) (max p.mo (0 : Int)))).toNat) - p.c0.toNat))], (.node .leaf (some (.prow 45 18 Int p.l encK)) .leaf), 1)) I_clones_psub pre_clones_psub po_clones_psub fun p5 r5 => mP (r5.o.length = r5.o.length) (mP (r5.o.length = r5.o.length) (allB fun h5 : Value => K (.tup [.sy (.int 0 p.c0), .sy (.imm h5 18 Int r5.o encK)]) (Ro5 p5.l p.com p.sh p.c0 p.c1 p.c2 p.c3 p.c4 p.l.length) 4)))))) (iP (p.w = 1) (mP (InR 0 ((p.l.length : Int) - p.c1)) (mP (InR 0 (p.c1 + (min ((p.l.length : Int) - p.c1) (max p.mo (0 : Int))))) (mP (p.l.length = p.l.length ∧ 0 ≤ p.c1 ∧ p.c1 ≤ (p.c1 + (min ((p.l.length : Int) - p.c1) (max p.mo (0 : Int)))) ∧ (p.c1 + (min ((p.l.length : Int) - p.c1) (max p.mo (0 : Int)))) ≤ (p.l.length : Int)) (useC (([.sy (.psub 0 18 p.c1.toNat (((p.c1 + (min ((p.l.length : Int) - p.c1) (max p.mo (0 : Int)))).toNat) - p.c1.toNat))], (.node .leaf (some (.prow 45 18 Int p.l encK)) .leaf), 1)) I_clones_psub pre_clones_psub po_clones_psub fun p4 r4 => mP (r4.o.length = r4.o.length) (mP (r4.o.length = r4.o.length) (allB fun h4 : Value => K (.tup [.sy (.int 0 p.c1), .sy (.imm h4 18 Int r4.o encK)]) (Ro5 p4.l p.com p.sh p.c0 p.c1 p.c2 p.c3 p.c4 p.l.length) 4)))))) (iP (p.w = 2) (mP (InR 0 ((p.l.length : Int) - p.c2)) (mP (InR 0 (p.c2 + (min ((p.l.length : Int) - p.c2) (max p.mo (0 : Int))))) (mP (p.l.length = p.l.length ∧ 0 ≤ p.c2 ∧ p.c2 ≤ (p.c2 + (min ((p.l.length : Int) - p.c2) (max p.mo (0 : Int)))) ∧ (p.c2 + (min ((p.l.length : Int) - p.c2) (max p.mo (0 : Int)))) ≤ (p.l.length : Int)) (useC (([.sy (.psub 0 18 p.c2.toNat (((p.c2 + (min ((p.l.length : Int) - p.c2) (max p.mo (0 : Int)))).toNat) - p.c2.toNat))], (.node .leaf (some (.prow 45 18 Int p.l encK)) .leaf), 1)) I_clones_psub pre_clones_psub po_clones_psub fun p3 r3 => mP (r3.o.length = r3.o.length) (mP (r3.o.length = r3.o.length) (allB fun h3 : Value => K (.tup [.sy (.int 0 p.c2), .sy (.imm h3 18 Int r3.o encK)]) (Ro5 p3.l p.com p.sh p.c0 p.c1 p.c2 p.c3 p.c4 p.l.length) 4)))))) (iP (p.w = 3) (mP (InR 0 ((p.l.length : Int) - p.c3)) (mP (InR 0 (p.c3 + (min ((p.l.length : Int) - p.c3) (max p.mo (0 : Int))))) (mP (p.l.length = p.l.length ∧ 0 ≤ p.c3 ∧ p.c3 ≤ (p.c3 + (min ((p.l.length : Int) - p.c3) (max p.mo (0 : Int)))) ∧ (p.c3 + (min ((p.l.length : Int) - p.c3) (max p.mo (0 : Int)))) ≤ (p.l.length : Int)) (useC (([.sy (.psub 0 18 p.c3.toNat (((p.c3 + (min ((p.l.length : Int) - p.c3) (max p.mo (0 : Int)))).toNat) - p.c3.toNat))], (.node .leaf (some (.prow 45 18 Int p.l encK)) .leaf), 1)) I_clones_psub pre_clones_psub po_clones_psub fun p2 r2 => mP (r2.o.length = r2.o.length) (mP (r2.o.length = r2.o.length) (allB fun h2 : Value => K (.tup [.sy (.int 0 p.c3), .sy (.imm h2 18 Int r2.o encK)]) (Ro5 p2.l p.com p.sh p.c0 p.c1 p.c2 p.c3 p.c4 p.l.length) 4)))))) (iP (p.w = 4) (mP (InR 0 ((p.l.length : Int) - p.c4)) (mP (InR 0 (p.c4 + (min ((p.l.length : Int) - p.c4) (max p.mo (0 : Int))))) (mP (p.l.length = p.l.length ∧ 0 ≤ p.c4 ∧ p.c4 ≤ (p.c4 + (min ((p.l.length : Int) - p.c4) (max p.mo (0 : Int)))) ∧ (p.c4 + (min ((p.l.length : Int) - p.c4) (max p.mo (0 : Int)))) ≤ (p.l.length : Int)) (useC (([.sy (.psub 0 18 p.c4.toNat (((p.c4 + (min ((p.l.length : Int) - p.c4) (max p.mo (0 : Int)))).toNat) - p.c4.toNat))], (.node .leaf (some (.prow 45 18 Int p.l encK)) .leaf), 1)) I_clones_psub pre_clones_psub po_clones_psub fun p1 r1 => mP (r1.o.length = r1.o.length) (mP (r1.o.length = r1.o.length) (allB fun h1 : Value => K (.tup [.sy (.int 0 p.c4), .sy (.imm h1 18 Int r1.o encK)]) (Ro5 p1.l p.com p.sh p.c0 p.c1 p.c2 p.c3 p.c4 p.l.length) 4)))))) (mP (False) (true)))))))) (by kernel_rfl) ?_
 dsimp only [pre_since5] at hpre
 refine iI (fun hc1 => ?_) (fun hc1 => ?_)
 refine mI (by simp only [InR]; omega) (mI (by simp only [InR]; omega) (mI (by (first | omega | (simp [limP] <;> omega))) ?_))
 refine callPR (⟨p.l, p.c0.toNat, ((p.c0 + (min ((p.l.length : Int) - p.c0) (max p.mo (0 : Int)))).toNat) - p.c0.toNat⟩ : A_clones_psub) rfl (by (try dsimp only [pre_clones_psub]); first | omega | (simp only [List.length_take, List.length_drop]; omega)) fun r5 hi2 => ?_
 dsimp only [po_clones_psub] at hi2
 refine mI (rfl) (mI (rfl) ?_)
 refine allB_mk (fun h5 => ?_)
 exact fin_since5 hK ⟨h5, r5.o, p.c0⟩ (by dsimp only [po_since5] <;> (first | (exfalso; omega) | exact ⟨0, by decide, by omega, rfl, (by assumption : _ ∧ _).1⟩ | exact ⟨1, by decide, by omega, rfl, (by assumption : _ ∧ _).1⟩ | exact ⟨2, by decide, by omega, rfl, (by assumption : _ ∧ _).1⟩ | exact ⟨3, by decide, by omega, rfl, (by assumption : _ ∧ _).1⟩ | exact ⟨4, by decide, by omega, rfl, (by assumption : _ ∧ _).1⟩))
 refine iI (fun hc3 => ?_) (fun hc3 => ?_)
 refine mI (by simp only [InR]; omega) (mI (by simp only [InR]; omega) (mI (by (first | omega | (simp [limP] <;> omega))) ?_))
 refine callPR (⟨p.l, p.c1.toNat, ((p.c1 + (min ((p.l.length : Int) - p.c1) (max p.mo (0 : Int)))).toNat) - p.c1.toNat⟩ : A_clones_psub) rfl (by (try dsimp only [pre_clones_psub]); first | omega | (simp only [List.length_take, List.length_drop]; omega)) fun r4 hi4 => ?_
 dsimp only [po_clones_psub] at hi4
 refine mI (rfl) (mI (rfl) ?_)
 refine allB_mk (fun h4 => ?_)
 exact fin_since5 hK ⟨h4, r4.o, p.c1⟩ (by dsimp only [po_since5] <;> (first | (exfalso; omega) | exact ⟨0, by decide, by omega, rfl, (by assumption : _ ∧ _).1⟩ | exact ⟨1, by decide, by omega, rfl, (by assumption : _ ∧ _).1⟩ | exact ⟨2, by decide, by omega, rfl, (by assumption : _ ∧ _).1⟩ | exact ⟨3, by decide, by omega, rfl, (by assumption : _ ∧ _).1⟩ | exact ⟨4, by decide, by omega, rfl, (by assumption : _ ∧ _).1⟩))
 refine iI (fun hc5 => ?_) (fun hc5 => ?_)
 refine mI (by simp only [InR]; omega) (mI (by simp only [InR]; omega) (mI (by (first | omega | (simp [limP] <;> omega))) ?_))
 refine callPR (⟨p.l, p.c2.toNat, ((p.c2 + (min ((p.l.length : Int) - p.c2) (max p.mo (0 : Int)))).toNat) - p.c2.toNat⟩ : A_clones_psub) rfl (by (try dsimp only [pre_clones_psub]); first | omega | (simp only [List.length_take, List.length_drop]; omega)) fun r3 hi6 => ?_
 dsimp only [po_clones_psub] at hi6
 refine mI (rfl) (mI (rfl) ?_)
 refine allB_mk (fun h3 => ?_)
 exact fin_since5 hK ⟨h3, r3.o, p.c2⟩ (by dsimp only [po_since5] <;> (first | (exfalso; omega) | exact ⟨0, by decide, by omega, rfl, (by assumption : _ ∧ _).1⟩ | exact ⟨1, by decide, by omega, rfl, (by assumption : _ ∧ _).1⟩ | exact ⟨2, by decide, by omega, rfl, (by assumption : _ ∧ _).1⟩ | exact ⟨3, by decide, by omega, rfl, (by assumption : _ ∧ _).1⟩ | exact ⟨4, by decide, by omega, rfl, (by assumption : _ ∧ _).1⟩))
 refine iI (fun hc7 => ?_) (fun hc7 => ?_)
 refine mI (by simp only [InR]; omega) (mI (by simp only [InR]; omega) (mI (by (first | omega | (simp [limP] <;> omega))) ?_))
 refine callPR (⟨p.l, p.c3.toNat, ((p.c3 + (min ((p.l.length : Int) - p.c3) (max p.mo (0 : Int)))).toNat) - p.c3.toNat⟩ : A_clones_psub) rfl (by (try dsimp only [pre_clones_psub]); first | omega | (simp only [List.length_take, List.length_drop]; omega)) fun r2 hi8 => ?_
 dsimp only [po_clones_psub] at hi8
 refine mI (rfl) (mI (rfl) ?_)
 refine allB_mk (fun h2 => ?_)
 exact fin_since5 hK ⟨h2, r2.o, p.c3⟩ (by dsimp only [po_since5] <;> (first | (exfalso; omega) | exact ⟨0, by decide, by omega, rfl, (by assumption : _ ∧ _).1⟩ | exact ⟨1, by decide, by omega, rfl, (by assumption : _ ∧ _).1⟩ | exact ⟨2, by decide, by omega, rfl, (by assumption : _ ∧ _).1⟩ | exact ⟨3, by decide, by omega, rfl, (by assumption : _ ∧ _).1⟩ | exact ⟨4, by decide, by omega, rfl, (by assumption : _ ∧ _).1⟩))
 refine iI (fun hc9 => ?_) (fun hc9 => ?_)
 refine mI (by simp only [InR]; omega) (mI (by simp only [InR]; omega) (mI (by (first | omega | (simp [limP] <;> omega))) ?_))
 refine callPR (⟨p.l, p.c4.toNat, ((p.c4 + (min ((p.l.length : Int) - p.c4) (max p.mo (0 : Int)))).toNat) - p.c4.toNat⟩ : A_clones_psub) rfl (by (try dsimp only [pre_clones_psub]); first | omega | (simp only [List.length_take, List.length_drop]; omega)) fun r1 hi10 => ?_
 dsimp only [po_clones_psub] at hi10
 refine mI (rfl) (mI (rfl) ?_)
 refine allB_mk (fun h1 => ?_)
 exact fin_since5 hK ⟨h1, r1.o, p.c4⟩ (by dsimp only [po_since5] <;> (first | (exfalso; omega) | exact ⟨0, by decide, by omega, rfl, (by assumption : _ ∧ _).1⟩ | exact ⟨1, by decide, by omega, rfl, (by assumption : _ ∧ _).1⟩ | exact ⟨2, by decide, by omega, rfl, (by assumption : _ ∧ _).1⟩ | exact ⟨3, by decide, by omega, rfl, (by assumption : _ ∧ _).1⟩ | exact ⟨4, by decide, by omega, rfl, (by assumption : _ ∧ _).1⟩))
 refine mI (by omega) ?_
 rfl
noncomputable def ec_since5 : SpecE := tstE (elB 1 5) (esOf I_since5 (spP pre_since5 out_since5)) ec_since4
theorem nc_since5 : NatE Try.prog 21 1 ec_since5 := tstE_ok (natE_pl (f := 21) (k := 1) (cfT_ok nat_since4_ok) ft_since5_ok (by rfl) (by rfl) vf_since5) nc_since4
noncomputable def nat_since5 := natC nat_since4 1 ec_since5 21 [(0, 4), (1, 15), (2, 20)]
theorem nat_since5_ok : NatsOk Try.prog nat_since5 := natC_ok nc_since5 nat_since4_ok
def ft_take2 : XF := .mk 85 (.one 8) (.aft (.seq (g_ 1 [p_ 0 8 (.mv (.c (.bool false)))]) (.seq (.seq (g_ 30 [p_ 0 10 (m_ 0), c_ 1 11 38 [.t 10], p_ 2 12 (m_ 11), pg_ 3 13 12 false (m_ 0), cg_ 4 14 12 false 34 [.t 13], p_ 5 15 (.pick (.t 12) (.c (.bool true)) (.t 14)), p_ 6 16 (m_ 15), pg_ 7 17 16 false (m_ 1), pg_ 8 18 16 false (m_ 0), pg_ 9 19 16 false (n_ 18), pg_ 10 20 16 false (f_ 6 19), rg_ 11 21 16 false (l_ 20), pg_ 12 22 16 false (.bin 3 0 (.t 17) (.t 21)), p_ 13 23 (.pick (.t 16) (.c (.bool true)) (.t 22)), p_ 14 24 (m_ 23), pg_ 15 25 24 false (m_ 1), pg_ 16 26 24 false (m_ 0), pg_ 17 27 24 false (n_ 26), pg_ 18 28 24 false (f_ 5 27), rg_ 19 29 24 false (l_ 28), pg_ 20 30 24 false (k_ 29), pg_ 21 31 24 false (.bin 3 2 (.t 25) (.t 30)), p_ 22 32 (.pick (.t 24) (.c (.bool true)) (.t 31)), p_ 23 33 (m_ 32), pg_ 24 34 33 false (m_ 2), pg_ 25 35 33 false (k_ 34), pg_ 26 36 33 false (m_ 1), pg_ 27 37 33 false (.bin 0 1 (i_ 400) (.t 36)), pg_ 28 38 33 false (.bin 3 2 (.t 35) (.t 37)), p_ 29 39 (.pick (.t 33) (.c (.bool true)) (.t 38))]) (.cond (.t 39) (.seq (g_ 1 [p_ 0 8 (.mv (.c (.bool false)))]) .ret) .skip)) (.seq (.seq (g_ 8 [p_ 0 40 (m_ 0), p_ 1 41 (n_ 40), p_ 2 42 (f_ 5 41), r_ 3 43 (l_ 42), p_ 4 44 (k_ 43), p_ 5 45 (m_ 1), p_ 6 46 (.bin 0 1 (.t 44) (.t 45)), p_ 7 9 (m_ 46)]) (.seq (g_ 11 [p_ 0 47 (m_ 0), p_ 1 48 (n_ 47), p_ 2 49 (f_ 8 48), r_ 3 50 (l_ 49), p_ 4 51 (.un 0 (.t 50)), p_ 5 52 (m_ 51), pg_ 6 53 52 true (m_ 9), pg_ 7 54 52 true (m_ 2), pg_ 8 55 52 true (k_ 54), pg_ 9 56 52 true (.bin 3 0 (.t 53) (.t 55)), p_ 10 57 (.pick (.t 52) (.t 56) (.c (.bool false)))]) (.cond (.t 57) (h_ 13 [p_ 0 58 (m_ 0), p_ 1 59 (m_ 0), p_ 2 60 (n_ 59), p_ 3 61 (f_ 5 60), r_ 4 62 (l_ 61), p_ 5 63 (m_ 2), p_ 6 64 (m_ 9), r_ 7 65 (.sls 18 (.t 63) (some (.t 64)) none none), c_ 8 66 33 [.t 65], a_ 4 62 (l_ 61), e_ 9 67 (.app 45 18 104 (.t 62) (.t 66)), p_ 10 68 (n_ 58), p_ 11 69 (f_ 5 68), e0_ 12 (.st 1 (.t 69) (.t 67))]) .skip))) (.seq (h_ 16 [p_ 0 70 (m_ 0), p_ 1 71 (m_ 0), p_ 2 72 (n_ 71), p_ 3 73 (f_ 7 72), r_ 4 74 (l_ 73), p_ 5 75 (m_ 3), p_ 6 76 (m_ 0), p_ 7 77 (n_ 76), p_ 8 78 (f_ 5 77), r_ 9 79 (l_ 78), p_ 10 80 (k_ 79), p_ 11 81 (.mx false (.t 75) (.t 80)), p_ 12 82 (.mx true (.t 74) (.t 81)), p_ 13 83 (n_ 70), p_ 14 84 (f_ 7 83), e0_ 15 (.st 1 (.t 84) (.t 82))]) (.seq (g_ 1 [p_ 0 8 (.mv (.c (.bool true)))]) .ret))))) [(0, [.up 8]), (1, [.up 8])])
theorem ft_take2_ok : chkF Try.prog 13 ft_take2 = true := by kernel_rfl
structure A_take2 where
 l : List Int
 com : Int
 sh : Prop
 c0 : Int
 c1 : Int
 me : Int
 fr : Int
 h : Value
 v : List Int
 c : Int
structure R_take2 where
 q : Prop
 l : List Int
 com : Int
def po_take2 (p : A_take2) (r : R_take2) : Prop := (r.l = p.l ∧ r.com = p.com) ∨ (0 ≤ p.fr ∧ p.fr ≤ (p.l.length : Int) ∧ (p.v.length : Int) ≤ 400 - p.fr ∧ ((¬ p.sh ∧ ((p.l.length : Int) - p.fr) < (p.v.length : Int) ∧ r.l = p.l ++ p.v.drop ((p.l.length : Int) - p.fr).toNat) ∨ ((p.sh ∨ (p.v.length : Int) ≤ ((p.l.length : Int) - p.fr)) ∧ r.l = p.l)) ∧ r.com = max p.com (min p.c (r.l.length : Int)))
noncomputable def I_take2 (p : A_take2) : IE := ([.ptr 0 0, .sy (.int 0 p.fr), .sy (.imm p.h 18 Int p.v encK), .sy (.int 0 p.c)], (Rm2n p.l p.com p.sh p.c0 p.c1 p.me), 4)
noncomputable def out_take2 (p : A_take2) (K : KE) : Bool := allB fun r : R_take2 => iP (po_take2 p r) (K (.sy (.bool r.q)) (Rm2n r.l r.com p.sh p.c0 p.c1 p.me) 4) true
def pre_take2 (p : A_take2) : Prop := 1 ≤ p.me ∧ p.me < 2 ∧ p.l.length ≤ 400 ∧ -1000000000 ≤ p.fr ∧ p.fr ≤ 1000000000
theorem fin_take2 {p : A_take2} {K : KE} (hK : out_take2 p K = true) (r : R_take2) (h : po_take2 p r) : K (.sy (.bool r.q)) (Rm2n r.l r.com p.sh p.c0 p.c1 p.me) 4 = true := ifB_use h (allB_ok hK r)
theorem vf_take2 (p : A_take2) (K : KE) (hpre : pre_take2 p) (hK : out_take2 p K = true) : (funE 1 (cfT nat_since5) noLp 600 ft_take2 (I_take2 p).1 (I_take2 p).2.1 (I_take2 p).2.2 K) = true := by
 refine Eq.trans (b := (let z0 : Bool := (K (.sy (.bool (true = true))) (Rm2n p.l (max p.com (min p.c (p.l.length : Int))) p.sh p.c0 p.c1 p.me) 4); let z1 : Bool := (K (.sy (.bool (false = true))) (Rm2n p.l p.com p.sh p.c0 p.c1 p.me) 4); must (Bool.and (prB (((.int 1 p.me) : SY) = (.int 1 p.me))) (true)) (iP (p.me = (0 : Int)) z1 (iP (p.fr < (0 : Int)) z1 (iP ((p.l.length : Int) < p.fr) z1 (mP (InR 0 ((400 : Int) - p.fr)) (iP (((400 : Int) - p.fr) < (p.v.length : Int)) z1 (mP (InR 0 ((p.l.length : Int) - p.fr)) (iP (¬ p.sh) (iP (((p.l.length : Int) - p.fr) < (p.v.length : Int)) (mP (0 ≤ ((p.l.length : Int) - p.fr) ∧ ((p.l.length : Int) - p.fr) ≤ (p.v.length : Int) ∧ (p.v.length : Int) ≤ (p.v.length : Int)) (useC (([.sy (.imm (hsl p.h 18 (((p.l.length : Int) - p.fr).toNat) p.v.length) 18 Int ((p.v.drop (((p.l.length : Int) - p.fr).toNat)).take (p.v.length - (((p.l.length : Int) - p.fr).toNat))) encK)], .leaf, 0)) I_clones_imm pre_clones_imm po_clones_imm fun p1 r1 => mP (((.prow 2 p.l.length) : SY) = (.prow 2 p.l.length)) (mP (r1.o.length = r1.o.length) (mP (p.l.length = p.l.length) (iP (r1.o = []) z0 (exB fun m1 : List Int => mP (rowsR (m1.map encK) (r1.o.map encK)) (mP (limP 104 (p.l.length + m1.length)) (K (.sy (.bool (true = true))) (Rm2 (p.l ++ m1) (max p.com (min p.c ((p.l ++ m1).length : Int))) p.sh p.c0 p.c1 p.me ((p.l ++ m1).length)) 4)))))))) z0) z0))))))))) (by kernel_rfl) ?_
 dsimp only [pre_take2] at hpre
 refine must_mk (by simp [prB]) ?_
 refine iI (fun hc1 => ?_) (fun hc1 => ?_)
 exact fin_take2 hK ⟨false = true, p.l, p.com⟩ (by dsimp only [po_take2] <;> (first | exact .inl ⟨rfl, rfl⟩ | (exfalso; omega)))
 refine iI (fun hc2 => ?_) (fun hc2 => ?_)
 exact fin_take2 hK ⟨false = true, p.l, p.com⟩ (by dsimp only [po_take2] <;> (first | exact .inl ⟨rfl, rfl⟩ | (exfalso; omega)))
 refine iI (fun hc3 => ?_) (fun hc3 => ?_)
 exact fin_take2 hK ⟨false = true, p.l, p.com⟩ (by dsimp only [po_take2] <;> (first | exact .inl ⟨rfl, rfl⟩ | (exfalso; omega)))
 refine mI (by simp only [InR]; omega) ?_
 refine iI (fun hc4 => ?_) (fun hc4 => ?_)
 exact fin_take2 hK ⟨false = true, p.l, p.com⟩ (by dsimp only [po_take2] <;> (first | exact .inl ⟨rfl, rfl⟩ | (exfalso; omega)))
 refine mI (by simp only [InR]; omega) ?_
 refine iI (fun hc5 => ?_) (fun hc5 => ?_)
 refine iI (fun hc6 => ?_) (fun hc6 => ?_)
 refine mI (by (first | omega | (simp [limP] <;> omega))) ?_
 refine callPR (⟨hsl p.h 18 (((p.l.length : Int) - p.fr).toNat) p.v.length, (p.v.drop (((p.l.length : Int) - p.fr).toNat)).take (p.v.length - (((p.l.length : Int) - p.fr).toNat))⟩ : A_clones_imm) rfl (by (try dsimp only [pre_clones_imm]); first | omega | (simp only [List.length_take, List.length_drop]; omega)) fun r1 hi7 => ?_
 dsimp only [po_clones_imm] at hi7
 refine mI (rfl) (mI (by (first | omega | (simp [limP] <;> omega))) (mI (rfl) ?_))
 refine iI (fun hc8 => ?_) (fun hc8 => ?_)
 have hc8l : (r1.o).length = 0 := (by rw [hc8]; rfl)
 exact fin_take2 hK ⟨true = true, p.l, max p.com (min p.c (p.l.length : Int))⟩ (by dsimp only [po_take2] <;> (first | exact .inr ⟨by omega, by omega, by omega, .inr ⟨.inl (by first | assumption | exact Classical.not_not.1 (by assumption)), rfl⟩, rfl⟩ | exact .inr ⟨by omega, by omega, by omega, .inr ⟨.inr (by omega), rfl⟩, rfl⟩ | (exfalso; omega) | (exfalso; have hz := hi7.2; simp only [List.length_take, List.length_drop] at hz; omega)))
 have hc8l : 0 < (r1.o).length := List.length_pos_iff.2 hc8
 refine exB_mk r1.o ?_
 refine mI (show rowsR (r1.o.map encK) (r1.o.map encK) from rowsR_refl _) (mI (by (try dsimp only); have hz := hi7.2; simp only [List.length_take, List.length_drop] at hz; unfold limP; omega) ?_)
 exact fin_take2 hK ⟨true = true, p.l ++ r1.o, max p.com (min p.c ((p.l ++ r1.o).length : Int))⟩ (by dsimp only [po_take2] <;> (first | (exfalso; omega) | (exfalso; have hz := hi7.2; simp only [List.length_take, List.length_drop] at hz; omega) | exact .inr ⟨by omega, by omega, by omega, .inl ⟨by assumption, by omega, congrArg _ (hi7.1.trans (List.take_of_length_le (by simp)))⟩, rfl⟩))
 exact fin_take2 hK ⟨true = true, p.l, max p.com (min p.c (p.l.length : Int))⟩ (by dsimp only [po_take2] <;> (first | exact .inr ⟨by omega, by omega, by omega, .inr ⟨.inl (by first | assumption | exact Classical.not_not.1 (by assumption)), rfl⟩, rfl⟩ | exact .inr ⟨by omega, by omega, by omega, .inr ⟨.inr (by omega), rfl⟩, rfl⟩ | (exfalso; omega) | (exfalso; have hz := hi0.2; simp only [List.length_take, List.length_drop] at hz; omega)))
 exact fin_take2 hK ⟨true = true, p.l, max p.com (min p.c (p.l.length : Int))⟩ (by dsimp only [po_take2] <;> (first | exact .inr ⟨by omega, by omega, by omega, .inr ⟨.inl (by first | assumption | exact Classical.not_not.1 (by assumption)), rfl⟩, rfl⟩ | exact .inr ⟨by omega, by omega, by omega, .inr ⟨.inr (by omega), rfl⟩, rfl⟩ | (exfalso; omega) | (exfalso; have hz := hi0.2; simp only [List.length_take, List.length_drop] at hz; omega)))
noncomputable def ec_take2 : SpecE := tstE (elB 1 2) (esOf I_take2 (spP pre_take2 out_take2)) (fun _ _ _ _ => false)
theorem nc_take2 : NatE Try.prog 13 1 ec_take2 := tstE_ok (natE_pl (f := 13) (k := 1) (cfT_ok nat_since5_ok) ft_take2_ok (by rfl) (by rfl) vf_take2) natE_no
noncomputable def nat_take2 := natC nat_since5 1 ec_take2 13 [(0, 4), (1, 20), (2, 23), (3, 20)]
theorem nat_take2_ok : NatsOk Try.prog nat_take2 := natC_ok nc_take2 nat_since5_ok
def ft_take3 : XF := ft_take2
theorem ft_take3_ok : chkF Try.prog 13 ft_take3 = true := ft_take2_ok
structure A_take3 where
 l : List Int
 com : Int
 sh : Prop
 c0 : Int
 c1 : Int
 c2 : Int
 me : Int
 fr : Int
 h : Value
 v : List Int
 c : Int
structure R_take3 where
 q : Prop
 l : List Int
 com : Int
def po_take3 (p : A_take3) (r : R_take3) : Prop := (r.l = p.l ∧ r.com = p.com) ∨ (0 ≤ p.fr ∧ p.fr ≤ (p.l.length : Int) ∧ (p.v.length : Int) ≤ 400 - p.fr ∧ ((¬ p.sh ∧ ((p.l.length : Int) - p.fr) < (p.v.length : Int) ∧ r.l = p.l ++ p.v.drop ((p.l.length : Int) - p.fr).toNat) ∨ ((p.sh ∨ (p.v.length : Int) ≤ ((p.l.length : Int) - p.fr)) ∧ r.l = p.l)) ∧ r.com = max p.com (min p.c (r.l.length : Int)))
noncomputable def I_take3 (p : A_take3) : IE := ([.ptr 0 0, .sy (.int 0 p.fr), .sy (.imm p.h 18 Int p.v encK), .sy (.int 0 p.c)], (Rm3n p.l p.com p.sh p.c0 p.c1 p.c2 p.me), 4)
noncomputable def out_take3 (p : A_take3) (K : KE) : Bool := allB fun r : R_take3 => iP (po_take3 p r) (K (.sy (.bool r.q)) (Rm3n r.l r.com p.sh p.c0 p.c1 p.c2 p.me) 4) true
def pre_take3 (p : A_take3) : Prop := 1 ≤ p.me ∧ p.me < 3 ∧ p.l.length ≤ 400 ∧ -1000000000 ≤ p.fr ∧ p.fr ≤ 1000000000
theorem fin_take3 {p : A_take3} {K : KE} (hK : out_take3 p K = true) (r : R_take3) (h : po_take3 p r) : K (.sy (.bool r.q)) (Rm3n r.l r.com p.sh p.c0 p.c1 p.c2 p.me) 4 = true := ifB_use h (allB_ok hK r)
theorem vf_take3 (p : A_take3) (K : KE) (hpre : pre_take3 p) (hK : out_take3 p K = true) : (funE 1 (cfT nat_take2) noLp 600 ft_take3 (I_take3 p).1 (I_take3 p).2.1 (I_take3 p).2.2 K) = true := by
 refine Eq.trans (b := (let z0 : Bool := (K (.sy (.bool (true = true))) (Rm3n p.l (max p.com (min p.c (p.l.length : Int))) p.sh p.c0 p.c1 p.c2 p.me) 4); let z1 : Bool := (K (.sy (.bool (false = true))) (Rm3n p.l p.com p.sh p.c0 p.c1 p.c2 p.me) 4); must (Bool.and (prB (((.int 1 p.me) : SY) = (.int 1 p.me))) (true)) (iP (p.me = (0 : Int)) z1 (iP (p.fr < (0 : Int)) z1 (iP ((p.l.length : Int) < p.fr) z1 (mP (InR 0 ((400 : Int) - p.fr)) (iP (((400 : Int) - p.fr) < (p.v.length : Int)) z1 (mP (InR 0 ((p.l.length : Int) - p.fr)) (iP (¬ p.sh) (iP (((p.l.length : Int) - p.fr) < (p.v.length : Int)) (mP (0 ≤ ((p.l.length : Int) - p.fr) ∧ ((p.l.length : Int) - p.fr) ≤ (p.v.length : Int) ∧ (p.v.length : Int) ≤ (p.v.length : Int)) (useC (([.sy (.imm (hsl p.h 18 (((p.l.length : Int) - p.fr).toNat) p.v.length) 18 Int ((p.v.drop (((p.l.length : Int) - p.fr).toNat)).take (p.v.length - (((p.l.length : Int) - p.fr).toNat))) encK)], .leaf, 0)) I_clones_imm pre_clones_imm po_clones_imm fun p1 r1 => mP (((.prow 2 p.l.length) : SY) = (.prow 2 p.l.length)) (mP (r1.o.length = r1.o.length) (mP (p.l.length = p.l.length) (iP (r1.o = []) z0 (exB fun m1 : List Int => mP (rowsR (m1.map encK) (r1.o.map encK)) (mP (limP 104 (p.l.length + m1.length)) (K (.sy (.bool (true = true))) (Rm3 (p.l ++ m1) (max p.com (min p.c ((p.l ++ m1).length : Int))) p.sh p.c0 p.c1 p.c2 p.me ((p.l ++ m1).length)) 4)))))))) z0) z0))))))))) (by kernel_rfl) ?_
 dsimp only [pre_take3] at hpre
 refine must_mk (by simp [prB]) ?_
 refine iI (fun hc1 => ?_) (fun hc1 => ?_)
 exact fin_take3 hK ⟨false = true, p.l, p.com⟩ (by dsimp only [po_take3] <;> (first | exact .inl ⟨rfl, rfl⟩ | (exfalso; omega)))
 refine iI (fun hc2 => ?_) (fun hc2 => ?_)
 exact fin_take3 hK ⟨false = true, p.l, p.com⟩ (by dsimp only [po_take3] <;> (first | exact .inl ⟨rfl, rfl⟩ | (exfalso; omega)))
 refine iI (fun hc3 => ?_) (fun hc3 => ?_)
 exact fin_take3 hK ⟨false = true, p.l, p.com⟩ (by dsimp only [po_take3] <;> (first | exact .inl ⟨rfl, rfl⟩ | (exfalso; omega)))
 refine mI (by simp only [InR]; omega) ?_
 refine iI (fun hc4 => ?_) (fun hc4 => ?_)
 exact fin_take3 hK ⟨false = true, p.l, p.com⟩ (by dsimp only [po_take3] <;> (first | exact .inl ⟨rfl, rfl⟩ | (exfalso; omega)))
 refine mI (by simp only [InR]; omega) ?_
 refine iI (fun hc5 => ?_) (fun hc5 => ?_)
 refine iI (fun hc6 => ?_) (fun hc6 => ?_)
 refine mI (by (first | omega | (simp [limP] <;> omega))) ?_
 refine callPR (⟨hsl p.h 18 (((p.l.length : Int) - p.fr).toNat) p.v.length, (p.v.drop (((p.l.length : Int) - p.fr).toNat)).take (p.v.length - (((p.l.length : Int) - p.fr).toNat))⟩ : A_clones_imm) rfl (by (try dsimp only [pre_clones_imm]); first | omega | (simp only [List.length_take, List.length_drop]; omega)) fun r1 hi7 => ?_
 dsimp only [po_clones_imm] at hi7
 refine mI (rfl) (mI (by (first | omega | (simp [limP] <;> omega))) (mI (rfl) ?_))
 refine iI (fun hc8 => ?_) (fun hc8 => ?_)
 have hc8l : (r1.o).length = 0 := (by rw [hc8]; rfl)
 exact fin_take3 hK ⟨true = true, p.l, max p.com (min p.c (p.l.length : Int))⟩ (by dsimp only [po_take3] <;> (first | exact .inr ⟨by omega, by omega, by omega, .inr ⟨.inl (by first | assumption | exact Classical.not_not.1 (by assumption)), rfl⟩, rfl⟩ | exact .inr ⟨by omega, by omega, by omega, .inr ⟨.inr (by omega), rfl⟩, rfl⟩ | (exfalso; omega) | (exfalso; have hz := hi7.2; simp only [List.length_take, List.length_drop] at hz; omega)))
 have hc8l : 0 < (r1.o).length := List.length_pos_iff.2 hc8
 refine exB_mk r1.o ?_
 refine mI (show rowsR (r1.o.map encK) (r1.o.map encK) from rowsR_refl _) (mI (by (try dsimp only); have hz := hi7.2; simp only [List.length_take, List.length_drop] at hz; unfold limP; omega) ?_)
 exact fin_take3 hK ⟨true = true, p.l ++ r1.o, max p.com (min p.c ((p.l ++ r1.o).length : Int))⟩ (by dsimp only [po_take3] <;> (first | (exfalso; omega) | (exfalso; have hz := hi7.2; simp only [List.length_take, List.length_drop] at hz; omega) | exact .inr ⟨by omega, by omega, by omega, .inl ⟨by assumption, by omega, congrArg _ (hi7.1.trans (List.take_of_length_le (by simp)))⟩, rfl⟩))
 exact fin_take3 hK ⟨true = true, p.l, max p.com (min p.c (p.l.length : Int))⟩ (by dsimp only [po_take3] <;> (first | exact .inr ⟨by omega, by omega, by omega, .inr ⟨.inl (by first | assumption | exact Classical.not_not.1 (by assumption)), rfl⟩, rfl⟩ | exact .inr ⟨by omega, by omega, by omega, .inr ⟨.inr (by omega), rfl⟩, rfl⟩ | (exfalso; omega) | (exfalso; have hz := hi0.2; simp only [List.length_take, List.length_drop] at hz; omega)))
 exact fin_take3 hK ⟨true = true, p.l, max p.com (min p.c (p.l.length : Int))⟩ (by dsimp only [po_take3] <;> (first | exact .inr ⟨by omega, by omega, by omega, .inr ⟨.inl (by first | assumption | exact Classical.not_not.1 (by assumption)), rfl⟩, rfl⟩ | exact .inr ⟨by omega, by omega, by omega, .inr ⟨.inr (by omega), rfl⟩, rfl⟩ | (exfalso; omega) | (exfalso; have hz := hi0.2; simp only [List.length_take, List.length_drop] at hz; omega)))
noncomputable def ec_take3 : SpecE := tstE (elB 1 3) (esOf I_take3 (spP pre_take3 out_take3)) ec_take2
theorem nc_take3 : NatE Try.prog 13 1 ec_take3 := tstE_ok (natE_pl (f := 13) (k := 1) (cfT_ok nat_take2_ok) ft_take3_ok (by rfl) (by rfl) vf_take3) nc_take2
noncomputable def nat_take3 := natC nat_take2 1 ec_take3 13 [(0, 4), (1, 20), (2, 23), (3, 20)]
theorem nat_take3_ok : NatsOk Try.prog nat_take3 := natC_ok nc_take3 nat_take2_ok
def ft_take4 : XF := ft_take2
theorem ft_take4_ok : chkF Try.prog 13 ft_take4 = true := ft_take2_ok
structure A_take4 where
 l : List Int
 com : Int
 sh : Prop
 c0 : Int
 c1 : Int
 c2 : Int
 c3 : Int
 me : Int
 fr : Int
 h : Value
 v : List Int
 c : Int
structure R_take4 where
 q : Prop
 l : List Int
 com : Int
def po_take4 (p : A_take4) (r : R_take4) : Prop := (r.l = p.l ∧ r.com = p.com) ∨ (0 ≤ p.fr ∧ p.fr ≤ (p.l.length : Int) ∧ (p.v.length : Int) ≤ 400 - p.fr ∧ ((¬ p.sh ∧ ((p.l.length : Int) - p.fr) < (p.v.length : Int) ∧ r.l = p.l ++ p.v.drop ((p.l.length : Int) - p.fr).toNat) ∨ ((p.sh ∨ (p.v.length : Int) ≤ ((p.l.length : Int) - p.fr)) ∧ r.l = p.l)) ∧ r.com = max p.com (min p.c (r.l.length : Int)))
noncomputable def I_take4 (p : A_take4) : IE := ([.ptr 0 0, .sy (.int 0 p.fr), .sy (.imm p.h 18 Int p.v encK), .sy (.int 0 p.c)], (Rm4n p.l p.com p.sh p.c0 p.c1 p.c2 p.c3 p.me), 4)
noncomputable def out_take4 (p : A_take4) (K : KE) : Bool := allB fun r : R_take4 => iP (po_take4 p r) (K (.sy (.bool r.q)) (Rm4n r.l r.com p.sh p.c0 p.c1 p.c2 p.c3 p.me) 4) true
def pre_take4 (p : A_take4) : Prop := 1 ≤ p.me ∧ p.me < 4 ∧ p.l.length ≤ 400 ∧ -1000000000 ≤ p.fr ∧ p.fr ≤ 1000000000
theorem fin_take4 {p : A_take4} {K : KE} (hK : out_take4 p K = true) (r : R_take4) (h : po_take4 p r) : K (.sy (.bool r.q)) (Rm4n r.l r.com p.sh p.c0 p.c1 p.c2 p.c3 p.me) 4 = true := ifB_use h (allB_ok hK r)
theorem vf_take4 (p : A_take4) (K : KE) (hpre : pre_take4 p) (hK : out_take4 p K = true) : (funE 1 (cfT nat_take3) noLp 600 ft_take4 (I_take4 p).1 (I_take4 p).2.1 (I_take4 p).2.2 K) = true := by
 refine Eq.trans (b := (let z0 : Bool := (K (.sy (.bool (true = true))) (Rm4n p.l (max p.com (min p.c (p.l.length : Int))) p.sh p.c0 p.c1 p.c2 p.c3 p.me) 4); let z1 : Bool := (K (.sy (.bool (false = true))) (Rm4n p.l p.com p.sh p.c0 p.c1 p.c2 p.c3 p.me) 4); must (Bool.and (prB (((.int 1 p.me) : SY) = (.int 1 p.me))) (true)) (iP (p.me = (0 : Int)) z1 (iP (p.fr < (0 : Int)) z1 (iP ((p.l.length : Int) < p.fr) z1 (mP (InR 0 ((400 : Int) - p.fr)) (iP (((400 : Int) - p.fr) < (p.v.length : Int)) z1 (mP (InR 0 ((p.l.length : Int) - p.fr)) (iP (¬ p.sh) (iP (((p.l.length : Int) - p.fr) < (p.v.length : Int)) (mP (0 ≤ ((p.l.length : Int) - p.fr) ∧ ((p.l.length : Int) - p.fr) ≤ (p.v.length : Int) ∧ (p.v.length : Int) ≤ (p.v.length : Int)) (useC (([.sy (.imm (hsl p.h 18 (((p.l.length : Int) - p.fr).toNat) p.v.length) 18 Int ((p.v.drop (((p.l.length : Int) - p.fr).toNat)).take (p.v.length - (((p.l.length : Int) - p.fr).toNat))) encK)], .leaf, 0)) I_clones_imm pre_clones_imm po_clones_imm fun p1 r1 => mP (((.prow 2 p.l.length) : SY) = (.prow 2 p.l.length)) (mP (r1.o.length = r1.o.length) (mP (p.l.length = p.l.length) (iP (r1.o = []) z0 (exB fun m1 : List Int => mP (rowsR (m1.map encK) (r1.o.map encK)) (mP (limP 104 (p.l.length + m1.length)) (K (.sy (.bool (true = true))) (Rm4 (p.l ++ m1) (max p.com (min p.c ((p.l ++ m1).length : Int))) p.sh p.c0 p.c1 p.c2 p.c3 p.me ((p.l ++ m1).length)) 4)))))))) z0) z0))))))))) (by kernel_rfl) ?_
 dsimp only [pre_take4] at hpre
 refine must_mk (by simp [prB]) ?_
 refine iI (fun hc1 => ?_) (fun hc1 => ?_)
 exact fin_take4 hK ⟨false = true, p.l, p.com⟩ (by dsimp only [po_take4] <;> (first | exact .inl ⟨rfl, rfl⟩ | (exfalso; omega)))
 refine iI (fun hc2 => ?_) (fun hc2 => ?_)
 exact fin_take4 hK ⟨false = true, p.l, p.com⟩ (by dsimp only [po_take4] <;> (first | exact .inl ⟨rfl, rfl⟩ | (exfalso; omega)))
 refine iI (fun hc3 => ?_) (fun hc3 => ?_)
 exact fin_take4 hK ⟨false = true, p.l, p.com⟩ (by dsimp only [po_take4] <;> (first | exact .inl ⟨rfl, rfl⟩ | (exfalso; omega)))
 refine mI (by simp only [InR]; omega) ?_
 refine iI (fun hc4 => ?_) (fun hc4 => ?_)
 exact fin_take4 hK ⟨false = true, p.l, p.com⟩ (by dsimp only [po_take4] <;> (first | exact .inl ⟨rfl, rfl⟩ | (exfalso; omega)))
 refine mI (by simp only [InR]; omega) ?_
 refine iI (fun hc5 => ?_) (fun hc5 => ?_)
 refine iI (fun hc6 => ?_) (fun hc6 => ?_)
 refine mI (by (first | omega | (simp [limP] <;> omega))) ?_
 refine callPR (⟨hsl p.h 18 (((p.l.length : Int) - p.fr).toNat) p.v.length, (p.v.drop (((p.l.length : Int) - p.fr).toNat)).take (p.v.length - (((p.l.length : Int) - p.fr).toNat))⟩ : A_clones_imm) rfl (by (try dsimp only [pre_clones_imm]); first | omega | (simp only [List.length_take, List.length_drop]; omega)) fun r1 hi7 => ?_
 dsimp only [po_clones_imm] at hi7
 refine mI (rfl) (mI (by (first | omega | (simp [limP] <;> omega))) (mI (rfl) ?_))
 refine iI (fun hc8 => ?_) (fun hc8 => ?_)
 have hc8l : (r1.o).length = 0 := (by rw [hc8]; rfl)
 exact fin_take4 hK ⟨true = true, p.l, max p.com (min p.c (p.l.length : Int))⟩ (by dsimp only [po_take4] <;> (first | exact .inr ⟨by omega, by omega, by omega, .inr ⟨.inl (by first | assumption | exact Classical.not_not.1 (by assumption)), rfl⟩, rfl⟩ | exact .inr ⟨by omega, by omega, by omega, .inr ⟨.inr (by omega), rfl⟩, rfl⟩ | (exfalso; omega) | (exfalso; have hz := hi7.2; simp only [List.length_take, List.length_drop] at hz; omega)))
 have hc8l : 0 < (r1.o).length := List.length_pos_iff.2 hc8
 refine exB_mk r1.o ?_
 refine mI (show rowsR (r1.o.map encK) (r1.o.map encK) from rowsR_refl _) (mI (by (try dsimp only); have hz := hi7.2; simp only [List.length_take, List.length_drop] at hz; unfold limP; omega) ?_)
 exact fin_take4 hK ⟨true = true, p.l ++ r1.o, max p.com (min p.c ((p.l ++ r1.o).length : Int))⟩ (by dsimp only [po_take4] <;> (first | (exfalso; omega) | (exfalso; have hz := hi7.2; simp only [List.length_take, List.length_drop] at hz; omega) | exact .inr ⟨by omega, by omega, by omega, .inl ⟨by assumption, by omega, congrArg _ (hi7.1.trans (List.take_of_length_le (by simp)))⟩, rfl⟩))
 exact fin_take4 hK ⟨true = true, p.l, max p.com (min p.c (p.l.length : Int))⟩ (by dsimp only [po_take4] <;> (first | exact .inr ⟨by omega, by omega, by omega, .inr ⟨.inl (by first | assumption | exact Classical.not_not.1 (by assumption)), rfl⟩, rfl⟩ | exact .inr ⟨by omega, by omega, by omega, .inr ⟨.inr (by omega), rfl⟩, rfl⟩ | (exfalso; omega) | (exfalso; have hz := hi0.2; simp only [List.length_take, List.length_drop] at hz; omega)))
 exact fin_take4 hK ⟨true = true, p.l, max p.com (min p.c (p.l.length : Int))⟩ (by dsimp only [po_take4] <;> (first | exact .inr ⟨by omega, by omega, by omega, .inr ⟨.inl (by first | assumption | exact Classical.not_not.1 (by assumption)), rfl⟩, rfl⟩ | exact .inr ⟨by omega, by omega, by omega, .inr ⟨.inr (by omega), rfl⟩, rfl⟩ | (exfalso; omega) | (exfalso; have hz := hi0.2; simp only [List.length_take, List.length_drop] at hz; omega)))
noncomputable def ec_take4 : SpecE := tstE (elB 1 4) (esOf I_take4 (spP pre_take4 out_take4)) ec_take3
theorem nc_take4 : NatE Try.prog 13 1 ec_take4 := tstE_ok (natE_pl (f := 13) (k := 1) (cfT_ok nat_take3_ok) ft_take4_ok (by rfl) (by rfl) vf_take4) nc_take3
noncomputable def nat_take4 := natC nat_take3 1 ec_take4 13 [(0, 4), (1, 20), (2, 23), (3, 20)]
theorem nat_take4_ok : NatsOk Try.prog nat_take4 := natC_ok nc_take4 nat_take3_ok
def ft_take5 : XF := ft_take2
theorem ft_take5_ok : chkF Try.prog 13 ft_take5 = true := ft_take2_ok
structure A_take5 where
 l : List Int
 com : Int
 sh : Prop
 c0 : Int
 c1 : Int
 c2 : Int
 c3 : Int
 c4 : Int
 me : Int
 fr : Int
 h : Value
 v : List Int
 c : Int
structure R_take5 where
 q : Prop
 l : List Int
 com : Int
def po_take5 (p : A_take5) (r : R_take5) : Prop := (r.l = p.l ∧ r.com = p.com) ∨ (0 ≤ p.fr ∧ p.fr ≤ (p.l.length : Int) ∧ (p.v.length : Int) ≤ 400 - p.fr ∧ ((¬ p.sh ∧ ((p.l.length : Int) - p.fr) < (p.v.length : Int) ∧ r.l = p.l ++ p.v.drop ((p.l.length : Int) - p.fr).toNat) ∨ ((p.sh ∨ (p.v.length : Int) ≤ ((p.l.length : Int) - p.fr)) ∧ r.l = p.l)) ∧ r.com = max p.com (min p.c (r.l.length : Int)))
noncomputable def I_take5 (p : A_take5) : IE := ([.ptr 0 0, .sy (.int 0 p.fr), .sy (.imm p.h 18 Int p.v encK), .sy (.int 0 p.c)], (Rm5n p.l p.com p.sh p.c0 p.c1 p.c2 p.c3 p.c4 p.me), 4)
noncomputable def out_take5 (p : A_take5) (K : KE) : Bool := allB fun r : R_take5 => iP (po_take5 p r) (K (.sy (.bool r.q)) (Rm5n r.l r.com p.sh p.c0 p.c1 p.c2 p.c3 p.c4 p.me) 4) true
def pre_take5 (p : A_take5) : Prop := 1 ≤ p.me ∧ p.me < 5 ∧ p.l.length ≤ 400 ∧ -1000000000 ≤ p.fr ∧ p.fr ≤ 1000000000
theorem fin_take5 {p : A_take5} {K : KE} (hK : out_take5 p K = true) (r : R_take5) (h : po_take5 p r) : K (.sy (.bool r.q)) (Rm5n r.l r.com p.sh p.c0 p.c1 p.c2 p.c3 p.c4 p.me) 4 = true := ifB_use h (allB_ok hK r)
theorem vf_take5 (p : A_take5) (K : KE) (hpre : pre_take5 p) (hK : out_take5 p K = true) : (funE 1 (cfT nat_take4) noLp 600 ft_take5 (I_take5 p).1 (I_take5 p).2.1 (I_take5 p).2.2 K) = true := by
 refine Eq.trans (b := (let z0 : Bool := (K (.sy (.bool (true = true))) (Rm5n p.l (max p.com (min p.c (p.l.length : Int))) p.sh p.c0 p.c1 p.c2 p.c3 p.c4 p.me) 4); let z1 : Bool := (K (.sy (.bool (false = true))) (Rm5n p.l p.com p.sh p.c0 p.c1 p.c2 p.c3 p.c4 p.me) 4); must (Bool.and (prB (((.int 1 p.me) : SY) = (.int 1 p.me))) (true)) (iP (p.me = (0 : Int)) z1 (iP (p.fr < (0 : Int)) z1 (iP ((p.l.length : Int) < p.fr) z1 (mP (InR 0 ((400 : Int) - p.fr)) (iP (((400 : Int) - p.fr) < (p.v.length : Int)) z1 (mP (InR 0 ((p.l.length : Int) - p.fr)) (iP (¬ p.sh) (iP (((p.l.length : Int) - p.fr) < (p.v.length : Int)) (mP (0 ≤ ((p.l.length : Int) - p.fr) ∧ ((p.l.length : Int) - p.fr) ≤ (p.v.length : Int) ∧ (p.v.length : Int) ≤ (p.v.length : Int)) (useC (([.sy (.imm (hsl p.h 18 (((p.l.length : Int) - p.fr).toNat) p.v.length) 18 Int ((p.v.drop (((p.l.length : Int) - p.fr).toNat)).take (p.v.length - (((p.l.length : Int) - p.fr).toNat))) encK)], .leaf, 0)) I_clones_imm pre_clones_imm po_clones_imm fun p1 r1 => mP (((.prow 2 p.l.length) : SY) = (.prow 2 p.l.length)) (mP (r1.o.length = r1.o.length) (mP (p.l.length = p.l.length) (iP (r1.o = []) z0 (exB fun m1 : List Int => mP (rowsR (m1.map encK) (r1.o.map encK)) (mP (limP 104 (p.l.length + m1.length)) (K (.sy (.bool (true = true))) (Rm5 (p.l ++ m1) (max p.com (min p.c ((p.l ++ m1).length : Int))) p.sh p.c0 p.c1 p.c2 p.c3 p.c4 p.me ((p.l ++ m1).length)) 4)))))))) z0) z0))))))))) (by kernel_rfl) ?_
 dsimp only [pre_take5] at hpre
 refine must_mk (by simp [prB]) ?_
 refine iI (fun hc1 => ?_) (fun hc1 => ?_)
 exact fin_take5 hK ⟨false = true, p.l, p.com⟩ (by dsimp only [po_take5] <;> (first | exact .inl ⟨rfl, rfl⟩ | (exfalso; omega)))
 refine iI (fun hc2 => ?_) (fun hc2 => ?_)
 exact fin_take5 hK ⟨false = true, p.l, p.com⟩ (by dsimp only [po_take5] <;> (first | exact .inl ⟨rfl, rfl⟩ | (exfalso; omega)))
 refine iI (fun hc3 => ?_) (fun hc3 => ?_)
 exact fin_take5 hK ⟨false = true, p.l, p.com⟩ (by dsimp only [po_take5] <;> (first | exact .inl ⟨rfl, rfl⟩ | (exfalso; omega)))
 refine mI (by simp only [InR]; omega) ?_
 refine iI (fun hc4 => ?_) (fun hc4 => ?_)
 exact fin_take5 hK ⟨false = true, p.l, p.com⟩ (by dsimp only [po_take5] <;> (first | exact .inl ⟨rfl, rfl⟩ | (exfalso; omega)))
 refine mI (by simp only [InR]; omega) ?_
 refine iI (fun hc5 => ?_) (fun hc5 => ?_)
 refine iI (fun hc6 => ?_) (fun hc6 => ?_)
 refine mI (by (first | omega | (simp [limP] <;> omega))) ?_
 refine callPR (⟨hsl p.h 18 (((p.l.length : Int) - p.fr).toNat) p.v.length, (p.v.drop (((p.l.length : Int) - p.fr).toNat)).take (p.v.length - (((p.l.length : Int) - p.fr).toNat))⟩ : A_clones_imm) rfl (by (try dsimp only [pre_clones_imm]); first | omega | (simp only [List.length_take, List.length_drop]; omega)) fun r1 hi7 => ?_
 dsimp only [po_clones_imm] at hi7
 refine mI (rfl) (mI (by (first | omega | (simp [limP] <;> omega))) (mI (rfl) ?_))
 refine iI (fun hc8 => ?_) (fun hc8 => ?_)
 have hc8l : (r1.o).length = 0 := (by rw [hc8]; rfl)
 exact fin_take5 hK ⟨true = true, p.l, max p.com (min p.c (p.l.length : Int))⟩ (by dsimp only [po_take5] <;> (first | exact .inr ⟨by omega, by omega, by omega, .inr ⟨.inl (by first | assumption | exact Classical.not_not.1 (by assumption)), rfl⟩, rfl⟩ | exact .inr ⟨by omega, by omega, by omega, .inr ⟨.inr (by omega), rfl⟩, rfl⟩ | (exfalso; omega) | (exfalso; have hz := hi7.2; simp only [List.length_take, List.length_drop] at hz; omega)))
 have hc8l : 0 < (r1.o).length := List.length_pos_iff.2 hc8
 refine exB_mk r1.o ?_
 refine mI (show rowsR (r1.o.map encK) (r1.o.map encK) from rowsR_refl _) (mI (by (try dsimp only); have hz := hi7.2; simp only [List.length_take, List.length_drop] at hz; unfold limP; omega) ?_)
 exact fin_take5 hK ⟨true = true, p.l ++ r1.o, max p.com (min p.c ((p.l ++ r1.o).length : Int))⟩ (by dsimp only [po_take5] <;> (first | (exfalso; omega) | (exfalso; have hz := hi7.2; simp only [List.length_take, List.length_drop] at hz; omega) | exact .inr ⟨by omega, by omega, by omega, .inl ⟨by assumption, by omega, congrArg _ (hi7.1.trans (List.take_of_length_le (by simp)))⟩, rfl⟩))
 exact fin_take5 hK ⟨true = true, p.l, max p.com (min p.c (p.l.length : Int))⟩ (by dsimp only [po_take5] <;> (first | exact .inr ⟨by omega, by omega, by omega, .inr ⟨.inl (by first | assumption | exact Classical.not_not.1 (by assumption)), rfl⟩, rfl⟩ | exact .inr ⟨by omega, by omega, by omega, .inr ⟨.inr (by omega), rfl⟩, rfl⟩ | (exfalso; omega) | (exfalso; have hz := hi0.2; simp only [List.length_take, List.length_drop] at hz; omega)))
 exact fin_take5 hK ⟨true = true, p.l, max p.com (min p.c (p.l.length : Int))⟩ (by dsimp only [po_take5] <;> (first | exact .inr ⟨by omega, by omega, by omega, .inr ⟨.inl (by first | assumption | exact Classical.not_not.1 (by assumption)), rfl⟩, rfl⟩ | exact .inr ⟨by omega, by omega, by omega, .inr ⟨.inr (by omega), rfl⟩, rfl⟩ | (exfalso; omega) | (exfalso; have hz := hi0.2; simp only [List.length_take, List.length_drop] at hz; omega)))
noncomputable def ec_take5 : SpecE := tstE (elB 1 5) (esOf I_take5 (spP pre_take5 out_take5)) ec_take4
theorem nc_take5 : NatE Try.prog 13 1 ec_take5 := tstE_ok (natE_pl (f := 13) (k := 1) (cfT_ok nat_take4_ok) ft_take5_ok (by rfl) (by rfl) vf_take5) nc_take4
noncomputable def nat_take5 := natC nat_take4 1 ec_take5 13 [(0, 4), (1, 20), (2, 23), (3, 20)]
theorem nat_take5_ok : NatsOk Try.prog nat_take5 := natC_ok nc_take5 nat_take4_ok
def ft_same : XF := .mk 52 (.one 4) (.aft (.seq (g_ 3 [e_ 0 2 (.box 45 (.t 0)), e_ 1 3 (.box 45 (.t 1)), p_ 2 4 (.mv (.c (.bool false)))]) (.seq (g_ 48 [p_ 0 5 (f_ 0 2), r_ 1 6 (l_ 5), p_ 2 7 (f_ 0 3), r_ 3 8 (l_ 7), p_ 4 9 (.bin 3 4 (.t 6) (.t 8)), p_ 5 10 (m_ 9), pg_ 6 11 10 true (f_ 1 2), rg_ 7 12 10 true (.ld true 10 (.t 11)), pg_ 8 13 10 true (f_ 1 3), rg_ 9 14 10 true (.ld true 10 (.t 13)), pg_ 10 15 10 true (.eqs false 4 (.st [(0, 2, true, .st [(0, 1, false, .int), (1, 1, false, .int)]), (2, 1, false, .int), (3, 1, false, .int), (4, 6, true, .ar [0, 2, 4] 2 true (.st [(0, 1, false, .int), (1, 1, false, .int)]))]) (.t 12) (.t 14)), p_ 11 16 (.pick (.t 10) (.t 15) (.c (.bool false))), p_ 12 17 (m_ 16), pg_ 13 18 17 true (f_ 11 2), rg_ 14 19 17 true (l_ 18), pg_ 15 20 17 true (f_ 11 3), rg_ 16 21 17 true (l_ 20), pg_ 17 22 17 true (.bin 3 4 (.t 19) (.t 21)), p_ 18 23 (.pick (.t 17) (.t 22) (.c (.bool false))), p_ 19 24 (m_ 23), pg_ 20 25 24 true (f_ 12 2), rg_ 21 26 24 true (l_ 25), pg_ 22 27 24 true (f_ 12 3), rg_ 23 28 24 true (l_ 27), cg_ 24 29 24 true 67 [.t 26, .t 28], p_ 25 30 (.pick (.t 24) (.t 29) (.c (.bool false))), p_ 26 31 (m_ 30), pg_ 27 32 31 true (f_ 13 2), rg_ 28 33 31 true (.ld true 2 (.t 32)), pg_ 29 34 31 true (f_ 13 3), rg_ 30 35 31 true (.ld true 2 (.t 34)), pg_ 31 36 31 true (.eqs false 2 (.st [(0, 1, false, .int), (1, 1, false, .str)]) (.t 33) (.t 35)), p_ 32 37 (.pick (.t 31) (.t 36) (.c (.bool false))), p_ 33 38 (m_ 37), pg_ 34 39 38 true (f_ 15 2), rg_ 35 40 38 true (l_ 39), pg_ 36 41 38 true (f_ 15 3), rg_ 37 42 38 true (l_ 41), cg_ 38 43 38 true 68 [.t 40, .t 42], p_ 39 44 (.pick (.t 38) (.t 43) (.c (.bool false))), p_ 40 45 (m_ 44), pg_ 41 46 45 true (f_ 16 2), rg_ 42 47 45 true (.ld true 2 (.t 46)), pg_ 43 48 45 true (f_ 16 3), rg_ 44 49 45 true (.ld true 2 (.t 48)), pg_ 45 50 45 true (.eqs false 2 (.st [(0, 1, false, .int), (1, 1, false, .int)]) (.t 47) (.t 49)), p_ 46 51 (.pick (.t 45) (.t 50) (.c (.bool false))), p_ 47 4 (m_ 51)]) .ret)) [(0, [.up 4]), (1, [.up 4])])
theorem ft_same_ok : chkF Try.prog 62 ft_same = true := by kernel_rfl
structure A_same where
 x : Int
 y : Int
structure R_same where
 q : Prop
def po_same (p : A_same) (r : R_same) : Prop := r.q ↔ p.x = p.y
noncomputable def I_same (p : A_same) : IE := ([.agg [.int 1 (.ofNat 2), .int 1 (.ofNat 0), .int 2 (.ofNat 0), .int 3 (.ofNat 0), .int 1 (.ofNat 0), .int 1 (.ofNat 0), .int 1 (.ofNat 0), .int 1 (.ofNat 0), .int 1 (.ofNat 0), .int 1 (.ofNat 0), .int 1 (.ofNat 0), .int 3 (.ofNat 0), .nilS, .int 1 (.ofNat 0), .str [], .nilS, .sy (.int 1 p.x), .int 2 (.ofNat 1)], .agg [.int 1 (.ofNat 2), .int 1 (.ofNat 0), .int 2 (.ofNat 0), .int 3 (.ofNat 0), .int 1 (.ofNat 0), .int 1 (.ofNat 0), .int 1 (.ofNat 0), .int 1 (.ofNat 0), .int 1 (.ofNat 0), .int 1 (.ofNat 0), .int 1 (.ofNat 0), .int 3 (.ofNat 0), .nilS, .int 1 (.ofNat 0), .str [], .nilS, .sy (.int 1 p.y), .int 2 (.ofNat 1)]], .leaf, 0)
noncomputable def out_same (p : A_same) (K : KE) : Bool := allB fun r : R_same => iP (po_same p r) (K (.sy (.bool r.q)) .leaf 0) true
theorem fin_same {p : A_same} {K : KE} (hK : out_same p K = true) (r : R_same) (h : po_same p r) : K (.sy (.bool r.q)) .leaf 0 = true := ifB_use h (allB_ok hK r)
theorem vf_same (p : A_same) (K : KE) (hK : out_same p K = true) : (funE 0 (cfT nat_take5) noLp 600 ft_same (I_same p).1 (I_same p).2.1 (I_same p).2.2 K) = true := by
 refine Eq.trans (b := (iP (p.x = p.y) (K (.sy (.bool (true = true))) .leaf 0) (K (.sy (.bool (false = true))) .leaf 0))) (by kernel_rfl) ?_
 refine iI (fun hc1 => ?_) (fun hc1 => ?_)
 exact fin_same hK ⟨true = true⟩ (by dsimp only [po_same] <;> (first | (simp; done) | (simp; omega) | simp_all))
 exact fin_same hK ⟨false = true⟩ (by dsimp only [po_same] <;> (first | (simp; done) | (simp; omega) | simp_all))
noncomputable def nat_same := natC nat_take5 0 (esOf I_same out_same) 62 [(0, 15), (1, 15)]
theorem nat_same_ok : NatsOk Try.prog nat_same := natC_ok (natE_pn (f := 62) (k := 0) (cfT_ok nat_take5_ok) ft_same_ok (by rfl) (by rfl) vf_same) nat_take5_ok
def ft_eqf : XF := .mk 32 (.one 6) (.aft (.seq (g_ 1 [p_ 0 6 (.mv (.c (.bool false)))]) (.seq (.seq (g_ 5 [p_ 0 10 (m_ 0), p_ 1 11 (k_ 10), p_ 2 12 (m_ 1), p_ 3 13 (k_ 12), p_ 4 14 (.bin 3 5 (.t 11) (.t 13))]) (.cond (.t 14) (.seq (g_ 1 [p_ 0 6 (.mv (.c (.bool false)))]) .ret) .skip)) (.seq (.seq (g_ 3 [p_ 0 15 (m_ 0), p_ 1 16 (k_ 15), p_ 2 17 (.mv (i_ 0))]) (.block 2 (.pre [.can 0 [1, 2, 15, 16, 17], .up 17, .can 0 [1, 2, 15, 16, 17]] (.inv 0 (.aft (.seq (g_ 1 [p_ 0 18 (.bin 3 0 (.t 17) (.t 16))]) (.seq (.cond (.t 18) .skip (.exit 2)) (.seq (.block 3 (.seq (g_ 6 [p_ 0 19 (m_ 17), p_ 1 20 (.ixs 18 (.t 15) (.t 17)), r_ 2 21 (.ld true 18 (.t 20)), e_ 3 8 (.al 45 [.int 1 (.ofNat 0), .int 1 (.ofNat 0), .int 2 (.ofNat 0), .int 3 (.ofNat 0), .int 1 (.ofNat 0), .int 1 (.ofNat 0), .int 1 (.ofNat 0), .int 1 (.ofNat 0), .int 1 (.ofNat 0), .int 1 (.ofNat 0), .int 1 (.ofNat 0), .int 3 (.ofNat 0), .nilS, .int 1 (.ofNat 0), .str [], .nilS, .int 1 (.ofNat 0), .int 2 (.ofNat 0)]), p_ 4 7 (m_ 19), e0_ 5 (.st 18 (.t 8) (.t 21))]) (.seq (g_ 6 [p_ 0 22 (m_ 1), p_ 1 23 (m_ 7), p_ 2 24 (.ixs 18 (.t 22) (.t 23)), r_ 3 25 (.ld true 18 (.t 24)), e_ 4 9 (.al 45 [.int 1 (.ofNat 0), .int 1 (.ofNat 0), .int 2 (.ofNat 0), .int 3 (.ofNat 0), .int 1 (.ofNat 0), .int 1 (.ofNat 0), .int 1 (.ofNat 0), .int 1 (.ofNat 0), .int 1 (.ofNat 0), .int 1 (.ofNat 0), .int 1 (.ofNat 0), .int 3 (.ofNat 0), .nilS, .int 1 (.ofNat 0), .str [], .nilS, .int 1 (.ofNat 0), .int 2 (.ofNat 0)]), e0_ 5 (.st 18 (.t 9) (.t 25))]) (.seq (g_ 5 [p_ 0 26 (m_ 2), r_ 1 27 (.ld true 18 (.t 8)), r_ 2 28 (.ld true 18 (.t 9)), .k 3 (some 29) none 26 62 [.t 27, .t 28], p_ 4 30 (.un 0 (.t 29))]) (.cond (.t 30) (.seq (g_ 1 [p_ 0 6 (.mv (.c (.bool false)))]) .ret) .skip))))) (g_ 2 [p_ 0 31 (.bin 0 0 (.t 17) (i_ 1)), p_ 1 17 (m_ 31)])))) [(0, [.can 0 [1, 2, 15, 16, 17]]), (1, [.can 0 [6]]), (2, [.can 0 []])]))))) (.seq (g_ 1 [p_ 0 6 (.mv (.c (.bool true)))]) .ret)))) [(0, [.up 6]), (1, [.up 6])])
theorem ft_eqf_ok : chkF Try.prog 61 ft_eqf = true := by kernel_rfl
structure A_l_eqf where
 h1 : Value
 l1 : List Int
 h2 : Value
 l2 : List Int
 i : Int
def po_l_eqf (p : A_l_eqf) : Prop := p.l1 = p.l2
def po_l_eqf1 (p : A_l_eqf) : Prop := ¬ p.l1 = p.l2
noncomputable def I_l_eqf (p : A_l_eqf) : IL := ((.cons 17 (.sy (.int 0 p.i)) (.cons 16 (.sy (.int 0 (p.l1.length : Int))) (.cons 15 (.sy (.imm p.h1 18 Int p.l1 encK)) (.cons 2 (.fn 62 []) (.cons 1 (.sy (.imm p.h2 18 Int p.l2 encK)) .nil))))), .leaf, 0)
noncomputable def out_l_eqf (p : A_l_eqf) (K : KC) : Bool := must (iP (po_l_eqf p) (K 2 .nil .leaf 0) true) (iP (po_l_eqf1 p) (K 1 (.cons 6 (.bool false) .nil) .leaf 0) true)
def pre_l_eqf (p : A_l_eqf) : Prop := p.l1.length = p.l2.length ∧ 0 ≤ p.i ∧ p.i ≤ (p.l1.length : Int) ∧ p.l1.length ≤ 1000000 ∧ p.l1.take p.i.toNat = p.l2.take p.i.toNat
noncomputable def sp_l_eqf (p : A_l_eqf) (K : KC) : Bool := must (prB (pre_l_eqf p)) (out_l_eqf p K)
noncomputable def lp_eqf : LpF := fun j S M nx K => (Bool.rec (false) (exB fun p : A_l_eqf => must (prB ((S, M, nx) = I_l_eqf p)) (sp_l_eqf p K)) (Nat.beq j 0))
def mu_l_eqf (p : A_l_eqf) : Nat := ((p.l1.length : Int) - p.i).toNat
theorem bk_l_eqf {p q : A_l_eqf} {K : KC} {s : IL} (hm : mu_l_eqf q < mu_l_eqf p) (hp : pre_l_eqf q) (hK : out_l_eqf q K = true) (e : s = I_l_eqf q) : (exB fun q => mP (s = I_l_eqf q ∧ mu_l_eqf q < mu_l_eqf p) (sp_l_eqf q K)) = true := exB_mk q (mustP ⟨e, hm⟩ (mustP hp hK))
def bd_l_eqf : XC := (.aft (.seq (g_ 1 [p_ 0 18 (.bin 3 0 (.t 17) (.t 16))]) (.seq (.cond (.t 18) .skip (.exit 2)) (.seq (.block 3 (.seq (g_ 6 [p_ 0 19 (m_ 17), p_ 1 20 (.ixs 18 (.t 15) (.t 17)), r_ 2 21 (.ld true 18 (.t 20)), e_ 3 8 (.al 45 [.int 1 (.ofNat 0), .int 1 (.ofNat 0), .int 2 (.ofNat 0), .int 3 (.ofNat 0), .int 1 (.ofNat 0), .int 1 (.ofNat 0), .int 1 (.ofNat 0), .int 1 (.ofNat 0), .int 1 (.ofNat 0), .int 1 (.ofNat 0), .int 1 (.ofNat 0), .int 3 (.ofNat 0), .nilS, .int 1 (.ofNat 0), .str [], .nilS, .int 1 (.ofNat 0), .int 2 (.ofNat 0)]), p_ 4 7 (m_ 19), e0_ 5 (.st 18 (.t 8) (.t 21))]) (.seq (g_ 6 [p_ 0 22 (m_ 1), p_ 1 23 (m_ 7), p_ 2 24 (.ixs 18 (.t 22) (.t 23)), r_ 3 25 (.ld true 18 (.t 24)), e_ 4 9 (.al 45 [.int 1 (.ofNat 0), .int 1 (.ofNat 0), .int 2 (.ofNat 0), .int 3 (.ofNat 0), .int 1 (.ofNat 0), .int 1 (.ofNat 0), .int 1 (.ofNat 0), .int 1 (.ofNat 0), .int 1 (.ofNat 0), .int 1 (.ofNat 0), .int 1 (.ofNat 0), .int 3 (.ofNat 0), .nilS, .int 1 (.ofNat 0), .str [], .nilS, .int 1 (.ofNat 0), .int 2 (.ofNat 0)]), e0_ 5 (.st 18 (.t 9) (.t 25))]) (.seq (g_ 5 [p_ 0 26 (m_ 2), r_ 1 27 (.ld true 18 (.t 8)), r_ 2 28 (.ld true 18 (.t 9)), .k 3 (some 29) none 26 62 [.t 27, .t 28], p_ 4 30 (.un 0 (.t 29))]) (.cond (.t 30) (.seq (g_ 1 [p_ 0 6 (.mv (.c (.bool false)))]) .ret) .skip))))) (g_ 2 [p_ 0 31 (.bin 0 0 (.t 17) (i_ 1)), p_ 1 17 (m_ 31)])))) [(0, [.can 0 [1, 2, 15, 16, 17]]), (1, [.can 0 [6]]), (2, [.can 0 []])])
theorem vb_l_eqf (p : A_l_eqf) (K : KC) (hpre : pre_l_eqf p) (hK : out_l_eqf p K = true) : (codeX (cfT nat_same) lp_eqf 600 bd_l_eqf (I_l_eqf p).1 (I_l_eqf p).2.1 (I_l_eqf p).2.2 (fun e S M nx => Nat.casesOn e (exB fun q : A_l_eqf => must (prB ((S, M, nx) = I_l_eqf q ∧ mu_l_eqf q < mu_l_eqf p)) (sp_l_eqf q K)) (fun e2 => K (Nat.succ e2) S M nx))) = true := by
 refine Eq.trans (b := (iP (p.i < (p.l1.length : Int)) (mP (0 ≤ p.i ∧ p.i < (p.l1.length : Int)) (allB fun x1 : Int => iP (p.l1[p.i.toNat]? = some x1) (mP (0 ≤ p.i ∧ p.i < (p.l2.length : Int)) (allB fun x2 : Int => iP (p.l2[p.i.toNat]? = some x2) (exB fun p1 : A_same => mP (([.agg [.int 1 (.ofNat 2), .int 1 (.ofNat 0), .int 2 (.ofNat 0), .int 3 (.ofNat 0), .int 1 (.ofNat 0), .int 1 (.ofNat 0), .int 1 (.ofNat 0), .int 1 (.ofNat 0), .int 1 (.ofNat 0), .int 1 (.ofNat 0), .int 1 (.ofNat 0), .int 3 (.ofNat 0), .nilS, .int 1 (.ofNat 0), .str [], .nilS, .sy (.int 1 x1), .int 2 (.ofNat 1)], .agg [.int 1 (.ofNat 2), .int 1 (.ofNat 0), .int 2 (.ofNat 0), .int 3 (.ofNat 0), .int 1 (.ofNat 0), .int 1 (.ofNat 0), .int 1 (.ofNat 0), .int 1 (.ofNat 0), .int 1 (.ofNat 0), .int 1 (.ofNat 0), .int 1 (.ofNat 0), .int 3 (.ofNat 0), .nilS, .int 1 (.ofNat 0), .str [], .nilS, .sy (.int 1 x2), .int 2 (.ofNat 1)]], .leaf, 0) = I_same p1) (allB fun r1 : R_same => iP (po_same p1 r1) (iP (¬ r1.q) (K 1 (.cons 6 (.bool false) .nil) .leaf 0) (mP (InR 0 (p.i + (1 : Int))) (exB fun q1 : A_l_eqf => mP (((.cons 17 (.sy (.int 0 (p.i + (1 : Int)))) (.cons 16 (.sy (.int 0 (p.l1.length : Int))) (.cons 15 (.sy (.imm p.h1 18 Int p.l1 encK)) (.cons 2 (.fn 62 []) (.cons 1 (.sy (.imm p.h2 18 Int p.l2 encK)) .nil))))), .leaf, 0) = I_l_eqf q1 ∧ mu_l_eqf q1 < mu_l_eqf p) (sp_l_eqf q1 K)))) true)) true)) true)) (K 2 .nil .leaf 0))) (by kernel_rfl) ?_
 obtain ⟨hK0, hKr0⟩ := must_ok hK
 have hK1 := hKr0
 dsimp only [pre_l_eqf] at hpre
 obtain ⟨g0, g1, g2, g3, g4⟩ := hpre
 refine iI (fun hc1 => ?_) (fun hc1 => ?_)
 refine mI (by first | omega | (constructor <;> omega)) ?_
 refine allB_mk (fun x1 => ?_)
 refine iI (fun hi2 => ?_) (fun _ => rfl)
 refine mI (by first | omega | (constructor <;> omega)) ?_
 refine allB_mk (fun x2 => ?_)
 refine iI (fun hi3 => ?_) (fun _ => rfl)
 refine callR (⟨x1, x2⟩ : A_same) rfl fun r1 hi4 => ?_
 dsimp only [po_same] at hi4
 refine iI (fun hc5 => ?_) (fun hc5 => ?_)
 exact ifB_use (show ¬ p.l1 = p.l2 from (by intro e; rw [e] at hi2; exact hc5 (hi4.2 (Option.some.inj (hi2.symm.trans hi3))))) hK1
 refine mI (by simp only [InR]; omega) ?_
 exact bk_l_eqf (q := ⟨p.h1, p.l1, p.h2, p.l2, p.i + (1 : Int)⟩) (by dsimp only [mu_l_eqf]; omega) (by dsimp only [pre_l_eqf]; refine ⟨g0, by omega, by omega, g3, ?_⟩; rw [show (p.i + 1).toNat = p.i.toNat + 1 by omega, ← tk (i := p.i.toNat) (by assumption : p.l1[p.i.toNat]? = some _), ← tk (i := p.i.toNat) (by assumption : p.l2[p.i.toNat]? = some _), g4, hi4.1 (Classical.not_not.1 hc5)]) hK rfl
 exact ifB_use (show p.l1 = p.l2 from (by have e := g4; rw [List.take_of_length_le (by omega), List.take_of_length_le (by omega)] at e; exact e)) hK0
theorem lo_l_eqf : LpOk Try.prog 32 0 lp_eqf true 0 bd_l_eqf := by
 exact lp_of (lf := 600) tb_mix (cfT_ok nat_same_ok) (by rfl) I_l_eqf mu_l_eqf sp_l_eqf (fun b j x h => by cases h) (fun S M nx K h => by obtain ⟨p, h⟩ := exB_ok h; exact ⟨p, (mustP_ok h).1, (mustP_ok h).2⟩) (fun p K h => vb_l_eqf p K (mustP_ok h).1 (mustP_ok h).2)
structure A_eqf where
 h1 : Value
 l1 : List Int
 h2 : Value
 l2 : List Int
structure R_eqf where
 q : Prop
def po_eqf (p : A_eqf) (r : R_eqf) : Prop := r.q ↔ p.l1 = p.l2
noncomputable def I_eqf (p : A_eqf) : IE := ([.sy (.imm p.h1 18 Int p.l1 encK), .sy (.imm p.h2 18 Int p.l2 encK), .fn 62 []], .leaf, 0)
noncomputable def out_eqf (p : A_eqf) (K : KE) : Bool := allB fun r : R_eqf => iP (po_eqf p r) (K (.sy (.bool r.q)) .leaf 0) true
def pre_eqf (p : A_eqf) : Prop := p.l1.length ≤ 1000000 ∧ p.l2.length ≤ 1000000
theorem fin_eqf {p : A_eqf} {K : KE} (hK : out_eqf p K = true) (r : R_eqf) (h : po_eqf p r) : K (.sy (.bool r.q)) .leaf 0 = true := ifB_use h (allB_ok hK r)
theorem vf_eqf (p : A_eqf) (K : KE) (hpre : pre_eqf p) (hK : out_eqf p K = true) : (funE 0 (cfT nat_same) lp_eqf 600 ft_eqf (I_eqf p).1 (I_eqf p).2.1 (I_eqf p).2.2 K) = true := by
 refine Eq.trans (b := (iP (¬ (p.l1.length : Int) = (p.l2.length : Int)) (K (.sy (.bool (false = true))) .leaf 0) (exB fun p1 : A_l_eqf => mP (((.cons 17 (.sy (.int 0 0)) (.cons 16 (.sy (.int 0 (p.l1.length : Int))) (.cons 15 (.sy (.imm p.h1 18 Int p.l1 encK)) (.cons 2 (.fn 62 []) (.cons 1 (.sy (.imm p.h2 18 Int p.l2 encK)) .nil))))), .leaf, 0) = I_l_eqf p1) (mP (pre_l_eqf p1) (must (iP (po_l_eqf p1) (K (.sy (.bool (true = true))) .leaf 0) true) (iP (po_l_eqf1 p1) (K (.sy (.bool (false = true))) .leaf 0) true)))))) (by kernel_rfl) ?_
 dsimp only [pre_eqf] at hpre
 obtain ⟨u1, u2⟩ := hpre
 refine iI (fun hc1 => ?_) (fun hc1 => ?_)
 exact fin_eqf hK ⟨false = true⟩ (by dsimp only [po_eqf] <;> (first | (simp; done) | (simp; assumption) | (simp; intro e; exact hc1 (by rw [e])) | simp_all))
 refine callP (⟨p.h1, p.l1, p.h2, p.l2, (0 : Int)⟩ : A_l_eqf) rfl (by (try dsimp only [pre_l_eqf]); refine ⟨by omega, by omega, by omega, by omega, rfl⟩) ?_
 refine must_mk ?_ ?_
 refine iI (p := p.l1 = p.l2) (fun hi2 => ?_) (fun _ => rfl)
 exact fin_eqf hK ⟨true = true⟩ (by dsimp only [po_eqf] <;> (first | (simp; done) | (simp; assumption) | (simp; intro e; exact hc1 (by rw [e])) | simp_all))
 refine iI (p := ¬ p.l1 = p.l2) (fun hi3 => ?_) (fun _ => rfl)
 exact fin_eqf hK ⟨false = true⟩ (by dsimp only [po_eqf] <;> (first | (simp; done) | (simp; assumption) | (simp; intro e; exact hc1 (by rw [e])) | simp_all))
noncomputable def nat_eqf := natC nat_same 0 (esOf I_eqf (spP pre_eqf out_eqf)) 61 [(0, 23), (1, 23)]
theorem nat_eqf_ok : NatsOk Try.prog nat_eqf := natC_ok (natE_said (f := 61) (k := 0) (lp := lp_eqf) (lf := 600) tb_mix (cfT_ok nat_same_ok) ft_eqf_ok (by rfl) (fun b j x h => (mem_step lo_l_eqf (fun h => (by cases h)) h)) fun p K h => vf_eqf p K (mustP_ok h).1 (mustP_ok h).2) nat_same_ok
end Go.Proofs.Try
namespace Go.Proofs.Try
open Go Go.RowKit Go.Eng Go.Sy
set_option linter.unusedVariables false
structure Told where
 to : Int
 fr : Int
 c : Int
 h : Value
 l : List Int
def encT (x : Told) : List PL := [.sint 0 x.to, .sint 0 x.fr, .sint 0 x.c, .imm x.h 18 Int x.l encK]
structure Rl where
 l : List Int
 com : Int
 sh : Prop
structure ROk (hd r : Rl) (c : Int) : Prop where
 pre : r.l = hd.l.take r.l.length
 len : r.l.length ≤ hd.l.length
 com0 : 0 ≤ r.com
 coml : r.com ≤ (r.l.length : Int)
 comh : r.com ≤ hd.com
 c0 : 0 ≤ c
 cl : c ≤ (r.l.length : Int)
structure MsgOk (hd : Rl) (tl : List Rl) (t : Told) : Prop where
 lo : 0 ≤ t.to
 hi : t.to < ((tl.length + 1 : Nat) : Int)
 back : t.to = 0 → ∃ (j : Nat) (r : Rl), t.c = (j : Int) ∧ (hd :: tl)[j]? = some r ∧ t.fr ≤ (r.l.length : Int)
 out : t.to ≠ 0 → 0 ≤ t.fr ∧ t.fr + (t.l.length : Int) ≤ (hd.l.length : Int) ∧ t.l = (hd.l.drop t.fr.toNat).take t.l.length ∧ t.c ≤ hd.com
structure FInv (hd : Rl) (tl : List Rl) (cs : List Int) (fly : List Told) : Prop where
 clen : cs.length = tl.length + 1
 few : fly.length ≤ 100
 short : hd.l.length ≤ 400
 each : ∀ (j : Nat) (r : Rl) (c : Int), (hd :: tl)[j]? = some r → cs[j]? = some c → ROk hd r c
 quo : (tl.length + 1) / 2 + 1 ≤ (cs.filter fun c => decide (hd.com ≤ c)).length
 msgs : ∀ t, t ∈ fly → MsgOk hd tl t
def Frz (a b : List Rl) : Prop := a.length = b.length ∧ ∀ (j : Nat) (r r' : Rl), a[j]? = some r → b[j]? = some r' → r.sh → r'.sh ∧ r'.l = r.l
theorem Frz.refl (a : List Rl) : Frz a a := ⟨rfl, fun j r r' h1 h2 h3 => by rw [h1] at h2; cases h2; exact ⟨h3, rfl⟩⟩
theorem Frz.trans {a b c : List Rl} (h1 : Frz a b) (h2 : Frz b c) : Frz a c := by
 refine ⟨h1.1.trans h2.1, fun j r r' k1 k2 k3 => ?_⟩
 have : j < b.length := by rw [← h1.1]; exact (List.getElem?_eq_some_iff.1 k1).1
 obtain ⟨m1, m2⟩ := h1.2 j r _ k1 (List.getElem?_eq_getElem this) k3
 obtain ⟨m3, m4⟩ := h2.2 j _ r' (List.getElem?_eq_getElem this) k2 m1
 exact ⟨m3, m4.trans m2⟩
theorem FInv.head {hd : Rl} {tl : List Rl} {cs : List Int} {fly : List Told} (h : FInv hd tl cs fly) {c : Int} (hc : cs[0]? = some c) : ROk hd hd c := h.each 0 hd c rfl hc
theorem FInv.cget {hd : Rl} {tl : List Rl} {cs : List Int} {fly : List Told} (h : FInv hd tl cs fly) {j : Nat} {r : Rl} (hj : (hd :: tl)[j]? = some r) : ∃ c, cs[j]? = some c := by
 have h1 := (List.getElem?_eq_some_iff.1 hj).1
 have h2 : j < cs.length := by rw [h.clen]; simpa using h1
 exact ⟨_, List.getElem?_eq_getElem h2⟩
theorem FInv.rget {hd : Rl} {tl : List Rl} {cs : List Int} {fly : List Told} (h : FInv hd tl cs fly) {j : Nat} {c : Int} (hj : cs[j]? = some c) : ∃ r, (hd :: tl)[j]? = some r := by
 have h1 := (List.getElem?_eq_some_iff.1 hj).1
 have h2 : j < (hd :: tl).length := by have := h.clen; simp only [List.length_cons]; omega
 exact ⟨_, List.getElem?_eq_getElem h2⟩
theorem FInv.roll {hd : Rl} {tl : List Rl} {cs : List Int} {fly : List Told} (h : FInv hd tl cs fly) {j : Nat} {r : Rl} (hj : (hd :: tl)[j]? = some r) : ∃ c, cs[j]? = some c ∧ ROk hd r c := by
 obtain ⟨c, hc⟩ := h.cget hj
 exact ⟨c, hc, h.each j r c hj hc⟩
theorem FInv.sub {hd : Rl} {tl : List Rl} {cs : List Int} {fly fly' : List Told} (h : FInv hd tl cs fly) (h1 : ∀ t, t ∈ fly' → t ∈ fly) (h2 : fly'.length ≤ 100) : FInv hd tl cs fly' :=
 { h with few := h2, msgs := fun t ht => h.msgs t (h1 t ht) }
theorem FInv.push {hd : Rl} {tl : List Rl} {cs : List Int} {fly : List Told} {t : Told} (h : FInv hd tl cs fly) (h1 : fly.length < 100) (h2 : MsgOk hd tl t) : FInv hd tl cs (fly ++ [t]) :=
 { h with few := (by simp; omega), msgs := (fun u hu => by
   rcases List.mem_append.1 hu with hu | hu
   ·exact h.msgs u hu
   ·simp only [List.mem_cons, List.not_mem_nil, or_false] at hu; subst hu; exact h2) }
def leL : List Int → List Int → Prop
 | [], [] => True
 | a :: l, b :: m => a ≤ b ∧ leL l m
 | _, _ => False
theorem leL_of : ∀ {l m : List Int}, l.length = m.length → (∀ (j : Nat) (a b : Int), l[j]? = some a → m[j]? = some b → a ≤ b) → leL l m
 | [], [], _, _ => trivial
 | a :: l, b :: m, h1, h2 => ⟨h2 0 a b rfl rfl, leL_of (by simpa using h1) fun j x y k1 k2 => h2 (j + 1) x y (by simpa using k1) (by simpa using k2)⟩
 | [], _ :: _, h1, _ => by simp at h1
 | _ :: _, [], h1, _ => by simp at h1
theorem leL.count : ∀ {l m : List Int} {v : Int}, leL l m → (l.filter fun c => decide (v ≤ c)).length ≤ (m.filter fun c => decide (v ≤ c)).length
 | [], [], _, _ => Nat.le_refl _
 | a :: l, b :: m, v, h => by
  have ih := h.2.count (v := v)
  simp only [List.filter_cons]
  have := h.1
  split <;> rename_i h1 <;> split <;> rename_i h2 <;> simp only [decide_eq_true_eq, List.length_cons] at * <;> omega
 | [], _ :: _, _, h => h.elim
 | _ :: _, [], _, h => h.elim
theorem tr_head {l l' : List Int} {com com' : Int} {sh : Prop} {tl : List Rl} {cs cs' : List Int} {fly : List Told} {maj : Nat} (h : FInv ⟨l, com, sh⟩ tl cs fly) (hm : (tl.length + 1) / 2 + 1 = maj)
  (hl : ∃ m, l' = l ++ m) (h4 : l'.length ≤ 400) (hlen : cs'.length = cs.length) (hle : leL cs cs') (hc : ∀ (j : Nat) (r : Rl) (c : Int), (Rl.mk l' com' sh :: tl)[j]? = some r → cs'[j]? = some c → c ≤ (r.l.length : Int)) (hq : comR maj com com' cs') : FInv ⟨l', com', sh⟩ tl cs' fly := by
 obtain ⟨m, rfl⟩ := hl
 obtain ⟨v, hv1, hv2⟩ := hq
 have hge : ∀ (j : Nat) (a b : Int), cs[j]? = some a → cs'[j]? = some b → a ≤ b := by
  intro j a b
  clear hc hv1 hv2 hlen h
  induction cs generalizing cs' j with
  | nil => intro k1; simp at k1
  | cons x cs ih =>
   match cs', hle with
   | y :: cs', hle =>
    cases j with
    | zero => intro k1 k2; simp at k1 k2; subst k1; subst k2; exact hle.1
    | succ j => intro k1 k2; exact ih (cs' := cs') hle.2 j (by simpa using k1) (by simpa using k2)
 have hpos : ∀ (j : Nat) (c : Int), cs'[j]? = some c → 0 ≤ c ∧ c ≤ ((l ++ m).length : Int) := by
  intro j c hj
  have hj1 : j < cs.length := by rw [← hlen]; exact (List.getElem?_eq_some_iff.1 hj).1
  obtain ⟨r, hr⟩ := h.rget (List.getElem?_eq_getElem hj1)
  have k := h.each j r _ hr (List.getElem?_eq_getElem hj1)
  have k1 := hge j _ c (List.getElem?_eq_getElem hj1) hj
  refine ⟨Int.le_trans k.c0 k1, ?_⟩
  cases j with
  | zero => exact hc 0 _ c rfl hj
  | succ j =>
   have k2 := hc (j + 1) r c (by simpa using hr) hj
   have k3 := k.len
   simp only [List.length_append] at *
   omega
 have hcom : com ≤ com' := by rw [hv1]; omega
 have h0 := h.each 0 _ _ rfl (List.getElem?_eq_getElem (show 0 < cs.length by rw [h.clen]; omega))
 have hcl : com' ≤ ((l ++ m).length : Int) := by
  rcases Int.le_total com v with k | k
  ·have e : com' = v := by rw [hv1]; omega
   have : 0 < (cs'.filter fun x => decide (v ≤ x)).length := by omega
   obtain ⟨x, hx⟩ := List.exists_mem_of_length_pos this
   obtain ⟨hx1, hx2⟩ := List.mem_filter.1 hx
   obtain ⟨j, hj, rfl⟩ := List.getElem_of_mem hx1
   have := (hpos j _ (List.getElem?_eq_getElem hj)).2
   simp only [decide_eq_true_eq] at hx2
   omega
  ·have e : com' = com := by rw [hv1]; omega
   have k2 := h0.coml
   simp only [List.length_append] at *
   omega
 refine ⟨by rw [hlen]; exact h.clen, h.few, h4, ?_, ?_, ?_⟩
 ·intro j r c hj hcj
  obtain ⟨p1, p2⟩ := hpos j c hcj
  cases j with
  | zero =>
   simp only [List.getElem?_cons_zero, Option.some.injEq] at hj
   subst hj
   exact ⟨(List.take_length (l := l ++ m)).symm, Nat.le_refl _, Int.le_trans h0.com0 hcom, hcl, Int.le_refl _, p1, p2⟩
  | succ j =>
   obtain ⟨c2, k1, k2⟩ := h.roll (j := j + 1) (r := r) (by simpa using hj)
   exact ⟨by rw [List.take_append_of_le_length k2.len]; exact k2.pre, by have := k2.len; simp only [List.length_append] at *; omega, k2.com0, k2.coml, Int.le_trans k2.comh hcom, p1, hc (j + 1) r c hj hcj⟩
 ·rcases Int.le_total com v with k | k
  ·have e : com' = v := by rw [hv1]; omega
   rw [e, hm]; exact hv2
  ·have e : com' = com := by rw [hv1]; omega
   rw [e]; exact Nat.le_trans h.quo hle.count
 ·intro t ht
  have k := h.msgs t ht
  refine ⟨k.lo, k.hi, fun e => ?_, fun e => ?_⟩
  ·obtain ⟨j, r, k1, k2, k3⟩ := k.back e
   cases j with
   | zero =>
    simp only [List.getElem?_cons_zero, Option.some.injEq] at k2
    subst k2
    exact ⟨0, _, k1, rfl, by simp only [List.length_append] at *; omega⟩
   | succ j => exact ⟨j + 1, r, k1, by simpa using k2, k3⟩
  ·obtain ⟨k1, k2, k3, k4⟩ := k.out e
   refine ⟨k1, by simp only [List.length_append] at *; omega, ?_, Int.le_trans k4 hcom⟩
   rw [List.drop_append_of_le_length (by simp only at k2; omega), List.take_append_of_le_length (by simp only [List.length_drop] at *; omega)]
   exact k3
theorem leL.refl : ∀ l : List Int, leL l l
 | [] => trivial
 | a :: l => ⟨Int.le_refl a, leL.refl l⟩
theorem frz_head {l l' : List Int} {com com' : Int} {sh : Prop} {tl : List Rl} (h : sh → l' = l) : Frz (⟨l, com, sh⟩ :: tl) (⟨l', com', sh⟩ :: tl) := by
 refine ⟨rfl, fun j r r' h1 h2 h3 => ?_⟩
 cases j with
 | zero =>
  simp only [List.getElem?_cons_zero, Option.some.injEq] at h1 h2
  subst h1; subst h2
  exact ⟨h3, h h3⟩
 | succ j =>
  simp only [List.getElem?_cons_succ] at h1 h2
  rw [h1] at h2; cases h2
  exact ⟨h3, rfl⟩
theorem tr_add {l l' : List Int} {com com' c0 c0' x : Int} {sh : Prop} {tl : List Rl} {cr : List Int} {fly : List Told} {maj : Nat} (h : FInv ⟨l, com, sh⟩ tl (c0 :: cr) fly) (hm : (tl.length + 1) / 2 + 1 = maj)
  (hp : (l' = l ∧ com' = com ∧ c0' = c0) ∨ (¬ sh ∧ l.length < 400 ∧ l' = l ++ [x] ∧ c0' = (l'.length : Int) ∧ comR maj com com' (c0' :: cr))) : FInv ⟨l', com', sh⟩ tl (c0' :: cr) fly ∧ Frz (⟨l, com, sh⟩ :: tl) (⟨l', com', sh⟩ :: tl) := by
 rcases hp with ⟨rfl, rfl, rfl⟩ | ⟨hs, h1, rfl, h2, h3⟩
 ·exact ⟨h, Frz.refl _⟩
 ·have h0 := h.head (c := c0) rfl
  have h00 := h0.cl
  refine ⟨tr_head h hm ⟨_, rfl⟩ (by simp; omega) rfl ⟨by rw [h2]; simp only [List.length_append] at *; omega, leL.refl _⟩ ?_ h3, frz_head fun k => (hs k).elim⟩
  intro j r c k1 k2
  cases j with
  | zero => simp at k1 k2; subst k1; subst k2; rw [h2]; exact Int.le_refl _
  | succ j => exact (h.each (j + 1) r c (by simpa using k1) (by simpa using k2)).cl
theorem tr_ack {l : List Int} {com com' : Int} {sh : Prop} {tl : List Rl} {cs cs' : List Int} {fly : List Told} {maj m : Nat} (h : FInv ⟨l, com, sh⟩ tl cs fly) (hm : (tl.length + 1) / 2 + 1 = maj) (hmm : tl.length + 1 = m)
  {t : Told} (ht : MsgOk ⟨l, com, sh⟩ tl t) (hto : t.to = 0)
  (hp : (cs' = cs ∧ com' = com) ∨ ∃ j : Nat, 1 ≤ j ∧ j < m ∧ t.c = (j : Int) ∧ t.fr ≤ (l.length : Int) ∧ cs' = (cs.set j (max (cs.getD j 0) t.fr)).set 0 (l.length : Int) ∧ comR maj com com' cs') : FInv ⟨l, com', sh⟩ tl cs' fly ∧ Frz (⟨l, com, sh⟩ :: tl) (⟨l, com', sh⟩ :: tl) := by
 rcases hp with ⟨rfl, rfl⟩ | ⟨j, h1, h2, h3, h4, h5, h6⟩
 ·exact ⟨h, Frz.refl _⟩
 ·obtain ⟨j2, r2, k1, k2, k3⟩ := ht.back hto
  obtain rfl : j = j2 := by omega
  refine ⟨tr_head h hm ⟨[], by simp⟩ h.short (by rw [h5]; simp) ?_ ?_ h6, frz_head fun _ => rfl⟩
  ·refine leL_of (by rw [h5]; simp) fun i a b p1 p2 => ?_
   rw [h5] at p2
   obtain ⟨r, hr⟩ := h.rget p1
   have ho := h.each i r a hr p1
   rw [List.getElem?_set] at p2
   split at p2
   ·rename_i e; subst e
    split at p2
    ·have := ho.cl; simp at hr; subst hr; simp at p2; simp at this; omega
    ·cases p2
   ·rw [List.getElem?_set] at p2
    split at p2
    ·rename_i e; subst e
     split at p2
     ·simp at p2; rw [← p2, p1]; simp; omega
     ·cases p2
    ·rw [p1] at p2; cases p2; exact Int.le_refl _
  ·intro i r c p1 p2
   rw [h5] at p2
   rw [List.getElem?_set] at p2
   split at p2
   ·rename_i e; subst e
    split at p2
    ·simp at p1 p2; subst p1; subst p2; exact Int.le_refl _
    ·cases p2
   ·rw [List.getElem?_set] at p2
    have p1' : (Rl.mk l com sh :: tl)[i]? = some r := by cases i with
     | zero => rename_i e; exact (e rfl).elim
     | succ i => simpa using p1
    obtain ⟨c2, q1, q2⟩ := h.roll p1'
    split at p2
    ·rename_i e; subst e
     split at p2
     ·simp at p2; rw [← p2, q1]
      rw [k2] at p1'; cases p1'
      have := q2.cl
      simp; omega
     ·cases p2
    ·rw [q1] at p2; cases p2; exact q2.cl
theorem tr_shut {hd : Rl} {tl : List Rl} {cs : List Int} {fly : List Told} (h : FInv hd tl cs fly) (p : Prop) : FInv ⟨hd.l, hd.com, p⟩ tl cs fly := by
 refine ⟨h.clen, h.few, h.short, fun j r c k1 k2 => ?_, h.quo, fun t ht => ?_⟩
 ·cases j with
  | zero => simp at k1; subst k1; have k := h.head (c := c) k2; exact ⟨k.1, k.2, k.3, k.4, k.5, k.6, k.7⟩
  | succ j => have k := h.each (j + 1) r c (by simpa using k1) k2; exact ⟨k.1, k.2, k.3, k.4, k.5, k.6, k.7⟩
 ·have k := h.msgs t ht
  refine ⟨k.lo, k.hi, fun e => ?_, k.out⟩
  obtain ⟨j, r, k1, k2, k3⟩ := k.back e
  cases j with
  | zero => simp at k2; subst k2; exact ⟨0, _, k1, rfl, k3⟩
  | succ j => exact ⟨j + 1, r, k1, by simpa using k2, k3⟩
theorem tr_other {hd r r' : Rl} {tl : List Rl} {i : Nat} {cs : List Int} {fly : List Told} (h : FInv hd tl cs fly) (hi : tl[i]? = some r) (h1 : r'.l = hd.l.take r'.l.length) (h2 : r'.l.length ≤ hd.l.length) (h3 : r.l.length ≤ r'.l.length)
  (h4 : 0 ≤ r'.com) (h5 : r'.com ≤ (r'.l.length : Int)) (h6 : r'.com ≤ hd.com) : FInv hd (tl.set i r') cs fly := by
 have hg : ∀ (j : Nat) (x : Rl), (hd :: tl.set i r')[j]? = some x → (hd :: tl)[j]? = some x ∨ (j = i + 1 ∧ x = r') := by
  intro j x hx
  cases j with
  | zero => exact .inl hx
  | succ j =>
   simp only [List.getElem?_cons_succ] at hx ⊢
   rw [List.getElem?_set] at hx
   split at hx
   ·rename_i e; subst e
    split at hx
    ·cases hx; exact .inr ⟨rfl, rfl⟩
    ·cases hx
   ·exact .inl hx
 refine ⟨by rw [List.length_set]; exact h.clen, h.few, h.short, fun j x c k1 k2 => ?_, by rw [List.length_set]; exact h.quo, fun t ht => ?_⟩
 ·rcases hg j x k1 with k | ⟨rfl, rfl⟩
  ·exact h.each j x c k k2
  ·obtain ⟨c2, q1, q2⟩ := h.roll (j := i + 1) (r := r) (by simpa using hi)
   rw [q1] at k2; cases k2
   exact ⟨h1, h2, h4, h5, h6, q2.c0, by have := q2.cl; omega⟩
 ·have k := h.msgs t ht
  refine ⟨k.lo, by rw [List.length_set]; exact k.hi, fun e => ?_, k.out⟩
  obtain ⟨j, x, k1, k2, k3⟩ := k.back e
  by_cases hj : j = i + 1
  ·subst hj
   have : x = r := by simp only [List.getElem?_cons_succ] at k2; rw [hi] at k2; cases k2; rfl
   subst this
   refine ⟨i + 1, r', k1, ?_, by omega⟩
   have := (List.getElem?_eq_some_iff.1 hi).1
   simp [this]
  ·refine ⟨j, x, k1, ?_, k3⟩
   cases j with
   | zero => exact k2
   | succ j => simp only [List.getElem?_cons_succ] at k2 ⊢; rw [List.getElem?_set_ne (by omega)]; exact k2
theorem frz_other {hd r r' : Rl} {tl : List Rl} {i : Nat} (hi : tl[i]? = some r) (h : r.sh → r'.sh ∧ r'.l = r.l) : Frz (hd :: tl) (hd :: tl.set i r') := by
 refine ⟨by simp, fun j x x' h1 h2 h3 => ?_⟩
 cases j with
 | zero => rw [show (hd :: tl.set i r')[0]? = (hd :: tl)[0]? from rfl, h1] at h2; cases h2; exact ⟨h3, rfl⟩
 | succ j =>
  simp only [List.getElem?_cons_succ] at h1 h2
  rw [List.getElem?_set] at h2
  split at h2
  ·rename_i e; subst e
   rw [hi] at h1; cases h1
   split at h2
   ·cases h2; exact h h3
   ·cases h2
  ·rw [h1] at h2; cases h2; exact ⟨h3, rfl⟩
theorem take_join {l v : List Int} {n f k : Nat} {L : List Int} (h1 : n = l.length) (h2 : l = L.take n) (h3 : v = (L.drop f).take v.length) (h4 : f ≤ n) (h5 : n - f = k) : l ++ v.drop k = L.take (l ++ v.drop k).length := by
 subst h1; subst h5
 have e : v.drop (l.length - f) = (L.drop l.length).take (v.length - (l.length - f)) := by
  rw [h3]
  rw [List.drop_take, List.drop_drop, List.length_take, List.length_drop]
  congr 1
  ·have : v.length ≤ L.length - f := by have := congrArg List.length h3; simp at this; omega
   omega
  ·congr 1; omega
 have hl : l.length ≤ L.length := by have := congrArg List.length h2; simp at this; omega
 rw [List.length_append, List.length_drop, List.take_add, ← h2, ← e]
theorem tr_take {hd : Rl} {tl : List Rl} {i : Nat} {l l' : List Int} {com com' : Int} {sh : Prop} {cs : List Int} {fly : List Told} (h : FInv hd tl cs fly) (hi : tl[i]? = some ⟨l, com, sh⟩) {t : Told} (ht : MsgOk hd tl t) (hto : t.to ≠ 0)
  (hp : (l' = l ∧ com' = com) ∨ (0 ≤ t.fr ∧ t.fr ≤ (l.length : Int) ∧ (t.l.length : Int) ≤ 400 - t.fr ∧ ((¬ sh ∧ ((l.length : Int) - t.fr) < (t.l.length : Int) ∧ l' = l ++ t.l.drop ((l.length : Int) - t.fr).toNat) ∨ ((sh ∨ (t.l.length : Int) ≤ ((l.length : Int) - t.fr)) ∧ l' = l)) ∧ com' = max com (min t.c (l'.length : Int)))) : FInv hd (tl.set i ⟨l', com', sh⟩) cs fly ∧ Frz (hd :: tl) (hd :: tl.set i ⟨l', com', sh⟩) := by
 obtain ⟨c, q1, q2⟩ := h.roll (j := i + 1) (r := ⟨l, com, sh⟩) (by simpa using hi)
 have q3 := q2.pre; have q4 := q2.len; have q5 := q2.com0; have q6 := q2.coml; have q7 := q2.comh
 simp only at q3 q4 q5 q6 q7
 rcases hp with ⟨rfl, rfl⟩ | ⟨h1, h2, h3, h4, h5⟩
 ·have e : tl.set i ⟨l', com', sh⟩ = tl := by
   refine List.ext_getElem? fun k => ?_
   rw [List.getElem?_set]
   split
   ·rename_i e; subst e; rw [if_pos (List.getElem?_eq_some_iff.1 hi).1, hi]
   ·rfl
  rw [e]; exact ⟨h, Frz.refl _⟩
 ·obtain ⟨k1, k2, k3, k4⟩ := ht.out hto
  have key : l' = hd.l.take l'.length ∧ l'.length ≤ hd.l.length ∧ l.length ≤ l'.length ∧ (sh → l' = l) := by
   rcases h4 with ⟨p1, p2, rfl⟩ | ⟨p1, rfl⟩
   ·refine ⟨take_join (f := t.fr.toNat) rfl q3 k3 (by omega) (by omega), ?_, by simp, fun k => (p1 k).elim⟩
    simp only [List.length_append, List.length_drop]; omega
   ·exact ⟨q3, q4, Nat.le_refl _, fun _ => rfl⟩
  obtain ⟨e1, e2, e3, e4⟩ := key
  refine ⟨tr_other h hi e1 e2 e3 (by simp only; omega) ?_ (by simp only; omega), frz_other hi fun k => ⟨k, e4 k⟩⟩
  simp only; omega
theorem tr_shutO {hd : Rl} {tl : List Rl} {i : Nat} {l : List Int} {com : Int} {sh : Prop} {cs : List Int} {fly : List Told} (h : FInv hd tl cs fly) (hi : tl[i]? = some ⟨l, com, sh⟩) (p : Prop) : FInv hd (tl.set i ⟨l, com, p⟩) cs fly := by
 obtain ⟨c, q1, q2⟩ := h.roll (j := i + 1) (r := ⟨l, com, sh⟩) (by simpa using hi)
 exact tr_other h hi q2.pre q2.len (Nat.le_refl _) q2.com0 q2.coml q2.comh
theorem tr_since {hd : Rl} {tl : List Rl} {cs : List Int} {fly : List Told} {h0 : Value} {o : List Int} {x fr mo : Int} {m : Nat} (h : FInv hd tl cs fly) (h1 : fly.length < 100) (hmm : tl.length + 1 = m) (hx : 0 < x)
  (hp : ∃ j : Nat, j < m ∧ x = (j : Int) ∧ fr = cs.getD j 0 ∧ o = (hd.l.drop (cs.getD j 0).toNat).take ((cs.getD j 0 + min ((hd.l.length : Int) - cs.getD j 0) (max mo 0)).toNat - (cs.getD j 0).toNat)) : FInv hd tl cs (fly ++ [⟨x, fr, hd.com, h0, o⟩]) := by
 obtain ⟨j, p1, p2, p3, p4⟩ := hp
 have hj : j < cs.length := by rw [h.clen]; omega
 obtain ⟨r, hr⟩ := h.rget (List.getElem?_eq_getElem hj)
 have k := h.each j r _ hr (List.getElem?_eq_getElem hj)
 have e : cs.getD j 0 = cs[j] := by rw [List.getD_eq_getElem?_getD, List.getElem?_eq_getElem hj]; rfl
 rw [e] at p3 p4
 have k1 := k.c0; have k2 := k.cl; have k3 := k.len
 refine h.push h1 ⟨by simp only; omega, by simp only; omega, fun e => by simp only at e; omega, fun _ => ⟨by rw [p3]; exact k1, ?_, ?_, Int.le_refl _⟩⟩
 ·simp only [p3, p4, List.length_take, List.length_drop]; omega
 ·simp only [p3, p4]
  rw [List.length_take, ← List.take_eq_take_min]
theorem tr_len {hd r : Rl} {tl : List Rl} {cs : List Int} {fly : List Told} {h0 : Value} {x fr : Int} {j : Nat} (h : FInv hd tl cs fly) (h1 : fly.length < 100) (hr : (hd :: tl)[j]? = some r) (hx : x = (j : Int)) (hf : fr = (r.l.length : Int)) : FInv hd tl cs (fly ++ [⟨0, fr, x, h0, []⟩]) :=
 h.push h1 ⟨by simp only; omega, by simp only; omega, fun _ => ⟨j, r, hx, hr, by simp only; omega⟩, fun e => (e rfl).elim⟩
structure RightP (hd r : Rl) : Prop where
 pre : r.l = hd.l.take r.l.length
 len : r.l.length ≤ hd.l.length
 coml : r.com ≤ (r.l.length : Int)
 comh : r.com ≤ hd.com
theorem FInv.right {hd : Rl} {tl : List Rl} {cs : List Int} {fly : List Told} (h : FInv hd tl cs fly) {j : Nat} {r : Rl} (hj : (hd :: tl)[j]? = some r) : RightP hd r := by
 obtain ⟨c, q1, q2⟩ := h.roll hj
 exact ⟨q2.pre, q2.len, q2.coml, q2.comh⟩
theorem FInv.keeps {hd : Rl} {tl : List Rl} {cs : List Int} {fly : List Told} {longest : Int} (h : FInv hd tl cs fly) (bs : List Bool) (hb : bs.length = tl.length + 1) (hc : tl.length + 1 < 2 * (bs.filter id).length)
  (hl : ∀ (j : Nat) (r : Rl), (hd :: tl)[j]? = some r → bs[j]? = some true → (r.l.length : Int) ≤ longest) : hd.com ≤ longest := by
 have key : ∀ (cs : List Int) (bs : List Bool), cs.length = bs.length → bs.length < (cs.filter fun c => decide (hd.com ≤ c)).length + (bs.filter id).length → ∃ (j : Nat) (c : Int), cs[j]? = some c ∧ bs[j]? = some true ∧ hd.com ≤ c := by
  intro cs
  induction cs with
  | nil => intro bs h1 h2; cases bs <;> simp at h1 h2
  | cons a cs ih =>
   intro bs h1 h2
   cases bs with
   | nil => simp at h1
   | cons b bs =>
    by_cases h3 : hd.com ≤ a ∧ b = true
    ·exact ⟨0, a, rfl, by simp [h3.2], h3.1⟩
    ·obtain ⟨j, c, k1, k2, k3⟩ := ih bs (by simpa using h1) (by
      simp only [List.filter_cons, List.length_cons] at h2
      by_cases h4 : hd.com ≤ a
      ·have h5 : b = false := by cases b <;> simp_all
       simp only [h4, h5, decide_true, if_true, List.length_cons, id] at h2
       simp at h2; omega
      ·simp only [h4, decide_false] at h2
       simp at h2
       split at h2
       ·simp only [List.length_cons] at h2; omega
       ·omega)
     exact ⟨j + 1, c, by simpa using k1, by simpa using k2, k3⟩
 have hq := h.quo
 obtain ⟨j, c, k1, k2, k3⟩ := key cs bs (by rw [h.clen, hb]) (by omega)
 obtain ⟨r, hr⟩ := h.rget k1
 have k4 := (h.each j r c hr k1).cl
 have k5 := hl j r hr k2
 omega
end Go.Proofs.Try
namespace Go.Proofs.Try
open Go Go.RowKit Go.Sy
open Go.Eng hiding allB
set_option maxRecDepth 1000000
set_option linter.unusedVariables false
set_option maxHeartbeats 4000000
theorem dead_right {o l o0 l0 : List Int} {q : Prop} (h3 : q ↔ o = (o0.drop (0 : Int).toNat).take (o.length - (0 : Int).toNat)) (h5 : ¬ q) (h1 : o = l ∧ o.length = l.length) (h2 : o0 = l0 ∧ o0.length = l0.length) (h4 : l = l0.take l.length) : False := by
 obtain ⟨rfl, _⟩ := h1
 obtain ⟨rfl, _⟩ := h2
 exact h5 (h3.2 (by simpa using h4))
structure F1 where
 s0 : Rl
 c0 : Int
 fly : List Told
 cnt : Int
def FI1 (f : F1) : Prop := FInv f.s0 [] [f.c0] f.fly
def Fr1 (f g : F1) : Prop := Frz (f.s0 :: []) (g.s0 :: [])
structure F2 where
 s0 : Rl
 s1 : Rl
 c0 : Int
 c1 : Int
 fly : List Told
 cnt : Int
def FI2 (f : F2) : Prop := FInv f.s0 [f.s1] [f.c0, f.c1] f.fly
def Fr2 (f g : F2) : Prop := Frz (f.s0 :: [f.s1]) (g.s0 :: [g.s1])
structure F3 where
 s0 : Rl
 s1 : Rl
 s2 : Rl
 c0 : Int
 c1 : Int
 c2 : Int
 fly : List Told
 cnt : Int
def FI3 (f : F3) : Prop := FInv f.s0 [f.s1, f.s2] [f.c0, f.c1, f.c2] f.fly
def Fr3 (f g : F3) : Prop := Frz (f.s0 :: [f.s1, f.s2]) (g.s0 :: [g.s1, g.s2])
structure F4 where
 s0 : Rl
 s1 : Rl
 s2 : Rl
 s3 : Rl
 c0 : Int
 c1 : Int
 c2 : Int
 c3 : Int
 fly : List Told
 cnt : Int
def FI4 (f : F4) : Prop := FInv f.s0 [f.s1, f.s2, f.s3] [f.c0, f.c1, f.c2, f.c3] f.fly
def Fr4 (f g : F4) : Prop := Frz (f.s0 :: [f.s1, f.s2, f.s3]) (g.s0 :: [g.s1, g.s2, g.s3])
structure F5 where
 s0 : Rl
 s1 : Rl
 s2 : Rl
 s3 : Rl
 s4 : Rl
 c0 : Int
 c1 : Int
 c2 : Int
 c3 : Int
 c4 : Int
 fly : List Told
 cnt : Int
def FI5 (f : F5) : Prop := FInv f.s0 [f.s1, f.s2, f.s3, f.s4] [f.c0, f.c1, f.c2, f.c3, f.c4] f.fly
def Fr5 (f g : F5) : Prop := Frz (f.s0 :: [f.s1, f.s2, f.s3, f.s4]) (g.s0 :: [g.s1, g.s2, g.s3, g.s4])
noncomputable def Fd1 (f : F1) (k0 : Nat) (k1 : Nat) : T := (.node (.node (.node .leaf (some (.blk false 67 10 [[.int 1 (.ofNat 0), .int 3 (.ofNat 1), .sl 4 0 1 (.rest 0), .int 1 (.ofNat 0), .int 2 (.ofNat 1), .sy (.prow 5 k1), .int 0 (.ofNat 0), .sy (.int 0 f.s0.com), .sy (.bool f.s0.sh), .map 6]])) .leaf) (some (.blk true 22 1 [[.ptr 3 0]])) (.node .leaf (some (.prow 45 18 Int f.s0.l encK)) .leaf)) (some (.blk false 81 3 [[.sl 1 0 1 (.rest 0), .sy (.prow 2 k0), .sy (.int 0 f.cnt)]])) (.node (.node .leaf (some (.blk true 31 2 [[.int 1 (.ofNat 0), .int 2 (.ofNat 1)]])) .leaf) (some (.prow 100 4 Told f.fly encT)) (.node .leaf (some (.map [(.agg [.int 1 (.ofNat 0), .int 2 (.ofNat 1)], .sy (.int 0 f.c0), 0)] 1)) .leaf)))
noncomputable def Fd1n (f : F1) : T := Fd1 f f.fly.length f.s0.l.length
noncomputable def Fh1 (f : F1) (k0 : Nat) (k1 : Nat) (o : AObj) : T := (.node (.node (.node (.node .leaf (some (.map [(.agg [.int 1 (.ofNat 0), .int 2 (.ofNat 1)], .sy (.int 0 f.c0), 0)] 1)) .leaf) (some (.prow 100 4 Told f.fly encT)) .leaf) (some (o)) (.node .leaf (some (.blk true 31 2 [[.int 1 (.ofNat 0), .int 2 (.ofNat 1)]])) .leaf)) (some (.blk false 81 3 [[.sl 2 0 1 (.rest 0), .sy (.prow 3 k0), .sy (.int 0 f.cnt)]])) (.node (.node .leaf (some (.blk false 67 10 [[.int 1 (.ofNat 0), .int 3 (.ofNat 1), .sl 5 0 1 (.rest 0), .int 1 (.ofNat 0), .int 2 (.ofNat 1), .sy (.prow 6 k1), .int 0 (.ofNat 0), .sy (.int 0 f.s0.com), .sy (.bool f.s0.sh), .map 7]])) .leaf) (some (.blk true 22 1 [[.ptr 4 0]])) (.node .leaf (some (.prow 45 18 Int f.s0.l encK)) .leaf)))
noncomputable def Fb1 (f : F1) (k : Int) (x : Int) (nn : Int) (i : Int) (k0 : Nat) (k1 : Nat) : T := Fh1 f k0 k1 (.blk false 74 4 [[.sy (.int 0 k), .sy (.int 0 x), .sy (.int 0 nn), .sy (.int 0 i)]])
noncomputable def Fb1n (f : F1) (k : Int) (x : Int) (nn : Int) (i : Int) : T := Fb1 f k x nn i f.fly.length f.s0.l.length
noncomputable def Fg2 (f : F2) (e1 : Int) (d1_0 : Int) (d1_1 : Int) (k0 : Nat) (k1 : Nat) (k2 : Nat) : T := (.node (.node (.node (.node .leaf (some (.map [(.agg [.int 1 (.ofNat 0), .int 2 (.ofNat 1)], .sy (.int 0 f.c0), 0), (.agg [.int 1 (.ofNat 1), .int 2 (.ofNat 1)], .sy (.int 0 f.c1), 1)] 2)) .leaf) (some (.blk false 67 10 [[.int 1 (.ofNat 0), .int 3 (.ofNat 1), .sl 5 0 2 (.rest 0), .int 1 (.ofNat 0), .int 2 (.ofNat 1), .sy (.prow 6 k1), .int 0 (.ofNat 0), .sy (.int 0 f.s0.com), .sy (.bool f.s0.sh), .map 7]])) .leaf) (some (.blk true 22 1 [[.ptr 3 0], [.ptr 4 0]])) (.node (.node .leaf (some (.prow 45 18 Int f.s1.l encK)) .leaf) (some (.blk true 31 2 [[.int 1 (.ofNat 0), .int 2 (.ofNat 1)], [.int 1 (.ofNat 1), .int 2 (.ofNat 1)]])) .leaf)) (some (.blk false 81 3 [[.sl 1 0 2 (.rest 0), .sy (.prow 2 k0), .sy (.int 0 f.cnt)]])) (.node (.node (.node .leaf (some (.blk true 31 2 [[.int 1 (.ofNat 0), .int 2 (.ofNat 1)], [.int 1 (.ofNat 1), .int 2 (.ofNat 1)]])) .leaf) (some (.blk false 67 10 [[.int 1 (.ofNat 0), .int 3 (.ofNat 1), .sl 8 0 2 (.rest 0), .sy (.int 1 e1), .int 2 (.ofNat 1), .sy (.prow 9 k2), .int 0 (.ofNat 0), .sy (.int 0 f.s1.com), .sy (.bool f.s1.sh), .map 10]])) .leaf) (some (.prow 100 4 Told f.fly encT)) (.node (.node .leaf (some (.map [(.agg [.int 1 (.ofNat 0), .int 2 (.ofNat 1)], .sy (.int 0 d1_0), 0), (.agg [.int 1 (.ofNat 1), .int 2 (.ofNat 1)], .sy (.int 0 d1_1), 1)] 2)) .leaf) (some (.prow 45 18 Int f.s0.l encK)) .leaf)))
noncomputable def Fd2 (f : F2) (k0 : Nat) (k1 : Nat) (k2 : Nat) : T := (Fg2 f 1 0 0 k0 k1 k2)
noncomputable def Fd2n (f : F2) : T := Fd2 f f.fly.length f.s0.l.length f.s1.l.length
noncomputable def Fh2 (f : F2) (k0 : Nat) (k1 : Nat) (k2 : Nat) (o : AObj) : T := (.node (.node (.node (.node .leaf (some (.prow 45 18 Int f.s0.l encK)) .leaf) (some (.prow 100 4 Told f.fly encT)) (.node .leaf (some (.map [(.agg [.int 1 (.ofNat 0), .int 2 (.ofNat 1)], .sy (.int 0 0), 0), (.agg [.int 1 (.ofNat 1), .int 2 (.ofNat 1)], .sy (.int 0 0), 1)] 2)) .leaf)) (some (o)) (.node (.node .leaf (some (.blk true 31 2 [[.int 1 (.ofNat 0), .int 2 (.ofNat 1)], [.int 1 (.ofNat 1), .int 2 (.ofNat 1)]])) .leaf) (some (.blk false 67 10 [[.int 1 (.ofNat 0), .int 3 (.ofNat 1), .sl 9 0 2 (.rest 0), .sy (.int 1 1), .int 2 (.ofNat 1), .sy (.prow 10 k2), .int 0 (.ofNat 0), .sy (.int 0 f.s1.com), .sy (.bool f.s1.sh), .map 11]])) .leaf)) (some (.blk false 81 3 [[.sl 2 0 2 (.rest 0), .sy (.prow 3 k0), .sy (.int 0 f.cnt)]])) (.node (.node (.node .leaf (some (.map [(.agg [.int 1 (.ofNat 0), .int 2 (.ofNat 1)], .sy (.int 0 f.c0), 0), (.agg [.int 1 (.ofNat 1), .int 2 (.ofNat 1)], .sy (.int 0 f.c1), 1)] 2)) .leaf) (some (.blk false 67 10 [[.int 1 (.ofNat 0), .int 3 (.ofNat 1), .sl 6 0 2 (.rest 0), .int 1 (.ofNat 0), .int 2 (.ofNat 1), .sy (.prow 7 k1), .int 0 (.ofNat 0), .sy (.int 0 f.s0.com), .sy (.bool f.s0.sh), .map 8]])) .leaf) (some (.blk true 22 1 [[.ptr 4 0], [.ptr 5 0]])) (.node (.node .leaf (some (.prow 45 18 Int f.s1.l encK)) .leaf) (some (.blk true 31 2 [[.int 1 (.ofNat 0), .int 2 (.ofNat 1)], [.int 1 (.ofNat 1), .int 2 (.ofNat 1)]])) .leaf)))
noncomputable def Fb2 (f : F2) (k : Int) (x : Int) (nn : Int) (i : Int) (k0 : Nat) (k1 : Nat) (k2 : Nat) : T := Fh2 f k0 k1 k2 (.blk false 74 4 [[.sy (.int 0 k), .sy (.int 0 x), .sy (.int 0 nn), .sy (.int 0 i)]])
noncomputable def Fb2n (f : F2) (k : Int) (x : Int) (nn : Int) (i : Int) : T := Fb2 f k x nn i f.fly.length f.s0.l.length f.s1.l.length
noncomputable def Fg3 (f : F3) (e1 : Int) (d1_0 : Int) (d1_1 : Int) (d1_2 : Int) (e2 : Int) (d2_0 : Int) (d2_1 : Int) (d2_2 : Int) (k0 : Nat) (k1 : Nat) (k2 : Nat) (k3 : Nat) : T := (.node (.node (.node (.node .leaf (some (.prow 45 18 Int f.s0.l encK)) .leaf) (some (.blk false 67 10 [[.int 1 (.ofNat 0), .int 3 (.ofNat 1), .sl 6 0 3 (.rest 0), .int 1 (.ofNat 0), .int 2 (.ofNat 1), .sy (.prow 7 k1), .int 0 (.ofNat 0), .sy (.int 0 f.s0.com), .sy (.bool f.s0.sh), .map 8]])) (.node .leaf (some (.map [(.agg [.int 1 (.ofNat 0), .int 2 (.ofNat 1)], .sy (.int 0 d1_0), 0), (.agg [.int 1 (.ofNat 1), .int 2 (.ofNat 1)], .sy (.int 0 d1_1), 1), (.agg [.int 1 (.ofNat 2), .int 2 (.ofNat 1)], .sy (.int 0 d1_2), 2)] 3)) .leaf)) (some (.blk true 22 1 [[.ptr 3 0], [.ptr 4 0], [.ptr 5 0]])) (.node (.node .leaf (some (.blk true 31 2 [[.int 1 (.ofNat 0), .int 2 (.ofNat 1)], [.int 1 (.ofNat 1), .int 2 (.ofNat 1)], [.int 1 (.ofNat 2), .int 2 (.ofNat 1)]])) .leaf) (some (.blk false 67 10 [[.int 1 (.ofNat 0), .int 3 (.ofNat 1), .sl 12 0 3 (.rest 0), .sy (.int 1 e2), .int 2 (.ofNat 1), .sy (.prow 13 k3), .int 0 (.ofNat 0), .sy (.int 0 f.s2.com), .sy (.bool f.s2.sh), .map 14]])) (.node .leaf (some (.prow 45 18 Int f.s2.l encK)) .leaf))) (some (.blk false 81 3 [[.sl 1 0 3 (.rest 0), .sy (.prow 2 k0), .sy (.int 0 f.cnt)]])) (.node (.node (.node .leaf (some (.map [(.agg [.int 1 (.ofNat 0), .int 2 (.ofNat 1)], .sy (.int 0 f.c0), 0), (.agg [.int 1 (.ofNat 1), .int 2 (.ofNat 1)], .sy (.int 0 f.c1), 1), (.agg [.int 1 (.ofNat 2), .int 2 (.ofNat 1)], .sy (.int 0 f.c2), 2)] 3)) .leaf) (some (.blk false 67 10 [[.int 1 (.ofNat 0), .int 3 (.ofNat 1), .sl 9 0 3 (.rest 0), .sy (.int 1 e1), .int 2 (.ofNat 1), .sy (.prow 10 k2), .int 0 (.ofNat 0), .sy (.int 0 f.s1.com), .sy (.bool f.s1.sh), .map 11]])) (.node .leaf (some (.blk true 31 2 [[.int 1 (.ofNat 0), .int 2 (.ofNat 1)], [.int 1 (.ofNat 1), .int 2 (.ofNat 1)], [.int 1 (.ofNat 2), .int 2 (.ofNat 1)]])) .leaf)) (some (.prow 100 4 Told f.fly encT)) (.node (.node .leaf (some (.prow 45 18 Int f.s1.l encK)) .leaf) (some (.blk true 31 2 [[.int 1 (.ofNat 0), .int 2 (.ofNat 1)], [.int 1 (.ofNat 1), .int 2 (.ofNat 1)], [.int 1 (.ofNat 2), .int 2 (.ofNat 1)]])) (.node .leaf (some (.map [(.agg [.int 1 (.ofNat 0), .int 2 (.ofNat 1)], .sy (.int 0 d2_0), 0), (.agg [.int 1 (.ofNat 1), .int 2 (.ofNat 1)], .sy (.int 0 d2_1), 1), (.agg [.int 1 (.ofNat 2), .int 2 (.ofNat 1)], .sy (.int 0 d2_2), 2)] 3)) .leaf))))
noncomputable def Fd3 (f : F3) (k0 : Nat) (k1 : Nat) (k2 : Nat) (k3 : Nat) : T := (Fg3 f 1 0 0 0 2 0 0 0 k0 k1 k2 k3)
noncomputable def Fd3n (f : F3) : T := Fd3 f f.fly.length f.s0.l.length f.s1.l.length f.s2.l.length
noncomputable def Fh3 (f : F3) (k0 : Nat) (k1 : Nat) (k2 : Nat) (k3 : Nat) (o : AObj) : T := (.node (.node (.node (.node (.node .leaf (some (.map [(.agg [.int 1 (.ofNat 0), .int 2 (.ofNat 1)], .sy (.int 0 0), 0), (.agg [.int 1 (.ofNat 1), .int 2 (.ofNat 1)], .sy (.int 0 0), 1), (.agg [.int 1 (.ofNat 2), .int 2 (.ofNat 1)], .sy (.int 0 0), 2)] 3)) .leaf) (some (.blk true 31 2 [[.int 1 (.ofNat 0), .int 2 (.ofNat 1)], [.int 1 (.ofNat 1), .int 2 (.ofNat 1)], [.int 1 (.ofNat 2), .int 2 (.ofNat 1)]])) .leaf) (some (.prow 100 4 Told f.fly encT)) (.node .leaf (some (.prow 45 18 Int f.s1.l encK)) .leaf)) (some (o)) (.node (.node .leaf (some (.map [(.agg [.int 1 (.ofNat 0), .int 2 (.ofNat 1)], .sy (.int 0 f.c0), 0), (.agg [.int 1 (.ofNat 1), .int 2 (.ofNat 1)], .sy (.int 0 f.c1), 1), (.agg [.int 1 (.ofNat 2), .int 2 (.ofNat 1)], .sy (.int 0 f.c2), 2)] 3)) .leaf) (some (.blk false 67 10 [[.int 1 (.ofNat 0), .int 3 (.ofNat 1), .sl 10 0 3 (.rest 0), .sy (.int 1 1), .int 2 (.ofNat 1), .sy (.prow 11 k2), .int 0 (.ofNat 0), .sy (.int 0 f.s1.com), .sy (.bool f.s1.sh), .map 12]])) (.node .leaf (some (.blk true 31 2 [[.int 1 (.ofNat 0), .int 2 (.ofNat 1)], [.int 1 (.ofNat 1), .int 2 (.ofNat 1)], [.int 1 (.ofNat 2), .int 2 (.ofNat 1)]])) .leaf))) (some (.blk false 81 3 [[.sl 2 0 3 (.rest 0), .sy (.prow 3 k0), .sy (.int 0 f.cnt)]])) (.node (.node (.node .leaf (some (.prow 45 18 Int f.s0.l encK)) .leaf) (some (.blk false 67 10 [[.int 1 (.ofNat 0), .int 3 (.ofNat 1), .sl 7 0 3 (.rest 0), .int 1 (.ofNat 0), .int 2 (.ofNat 1), .sy (.prow 8 k1), .int 0 (.ofNat 0), .sy (.int 0 f.s0.com), .sy (.bool f.s0.sh), .map 9]])) (.node .leaf (some (.map [(.agg [.int 1 (.ofNat 0), .int 2 (.ofNat 1)], .sy (.int 0 0), 0), (.agg [.int 1 (.ofNat 1), .int 2 (.ofNat 1)], .sy (.int 0 0), 1), (.agg [.int 1 (.ofNat 2), .int 2 (.ofNat 1)], .sy (.int 0 0), 2)] 3)) .leaf)) (some (.blk true 22 1 [[.ptr 4 0], [.ptr 5 0], [.ptr 6 0]])) (.node (.node .leaf (some (.blk true 31 2 [[.int 1 (.ofNat 0), .int 2 (.ofNat 1)], [.int 1 (.ofNat 1), .int 2 (.ofNat 1)], [.int 1 (.ofNat 2), .int 2 (.ofNat 1)]])) .leaf) (some (.blk false 67 10 [[.int 1 (.ofNat 0), .int 3 (.ofNat 1), .sl 13 0 3 (.rest 0), .sy (.int 1 2), .int 2 (.ofNat 1), .sy (.prow 14 k3), .int 0 (.ofNat 0), .sy (.int 0 f.s2.com), .sy (.bool f.s2.sh), .map 15]])) (.node .leaf (some (.prow 45 18 Int f.s2.l encK)) .leaf))))
noncomputable def Fb3 (f : F3) (k : Int) (x : Int) (nn : Int) (i : Int) (k0 : Nat) (k1 : Nat) (k2 : Nat) (k3 : Nat) : T := Fh3 f k0 k1 k2 k3 (.blk false 74 4 [[.sy (.int 0 k), .sy (.int 0 x), .sy (.int 0 nn), .sy (.int 0 i)]])
noncomputable def Fb3n (f : F3) (k : Int) (x : Int) (nn : Int) (i : Int) : T := Fb3 f k x nn i f.fly.length f.s0.l.length f.s1.l.length f.s2.l.length
noncomputable def Fg4 (f : F4) (e1 : Int) (d1_0 : Int) (d1_1 : Int) (d1_2 : Int) (d1_3 : Int) (e2 : Int) (d2_0 : Int) (d2_1 : Int) (d2_2 : Int) (d2_3 : Int) (e3 : Int) (d3_0 : Int) (d3_1 : Int) (d3_2 : Int) (d3_3 : Int) (k0 : Nat) (k1 : Nat) (k2 : Nat) (k3 : Nat) (k4 : Nat) : T := (.node (.node (.node (.node (.node .leaf (some (.map [(.agg [.int 1 (.ofNat 0), .int 2 (.ofNat 1)], .sy (.int 0 d2_0), 0), (.agg [.int 1 (.ofNat 1), .int 2 (.ofNat 1)], .sy (.int 0 d2_1), 1), (.agg [.int 1 (.ofNat 2), .int 2 (.ofNat 1)], .sy (.int 0 d2_2), 2), (.agg [.int 1 (.ofNat 3), .int 2 (.ofNat 1)], .sy (.int 0 d2_3), 3)] 4)) .leaf) (some (.blk true 31 2 [[.int 1 (.ofNat 0), .int 2 (.ofNat 1)], [.int 1 (.ofNat 1), .int 2 (.ofNat 1)], [.int 1 (.ofNat 2), .int 2 (.ofNat 1)], [.int 1 (.ofNat 3), .int 2 (.ofNat 1)]])) .leaf) (some (.blk false 67 10 [[.int 1 (.ofNat 0), .int 3 (.ofNat 1), .sl 7 0 4 (.rest 0), .int 1 (.ofNat 0), .int 2 (.ofNat 1), .sy (.prow 8 k1), .int 0 (.ofNat 0), .sy (.int 0 f.s0.com), .sy (.bool f.s0.sh), .map 9]])) (.node .leaf (some (.prow 45 18 Int f.s1.l encK)) .leaf)) (some (.blk true 22 1 [[.ptr 3 0], [.ptr 4 0], [.ptr 5 0], [.ptr 6 0]])) (.node (.node (.node .leaf (some (.prow 45 18 Int f.s3.l encK)) .leaf) (some (.map [(.agg [.int 1 (.ofNat 0), .int 2 (.ofNat 1)], .sy (.int 0 f.c0), 0), (.agg [.int 1 (.ofNat 1), .int 2 (.ofNat 1)], .sy (.int 0 f.c1), 1), (.agg [.int 1 (.ofNat 2), .int 2 (.ofNat 1)], .sy (.int 0 f.c2), 2), (.agg [.int 1 (.ofNat 3), .int 2 (.ofNat 1)], .sy (.int 0 f.c3), 3)] 4)) .leaf) (some (.blk false 67 10 [[.int 1 (.ofNat 0), .int 3 (.ofNat 1), .sl 13 0 4 (.rest 0), .sy (.int 1 e2), .int 2 (.ofNat 1), .sy (.prow 14 k3), .int 0 (.ofNat 0), .sy (.int 0 f.s2.com), .sy (.bool f.s2.sh), .map 15]])) (.node .leaf (some (.blk true 31 2 [[.int 1 (.ofNat 0), .int 2 (.ofNat 1)], [.int 1 (.ofNat 1), .int 2 (.ofNat 1)], [.int 1 (.ofNat 2), .int 2 (.ofNat 1)], [.int 1 (.ofNat 3), .int 2 (.ofNat 1)]])) .leaf))) (some (.blk false 81 3 [[.sl 1 0 4 (.rest 0), .sy (.prow 2 k0), .sy (.int 0 f.cnt)]])) (.node (.node (.node (.node .leaf (some (.blk true 31 2 [[.int 1 (.ofNat 0), .int 2 (.ofNat 1)], [.int 1 (.ofNat 1), .int 2 (.ofNat 1)], [.int 1 (.ofNat 2), .int 2 (.ofNat 1)], [.int 1 (.ofNat 3), .int 2 (.ofNat 1)]])) .leaf) (some (.prow 45 18 Int f.s0.l encK)) .leaf) (some (.blk false 67 10 [[.int 1 (.ofNat 0), .int 3 (.ofNat 1), .sl 10 0 4 (.rest 0), .sy (.int 1 e1), .int 2 (.ofNat 1), .sy (.prow 11 k2), .int 0 (.ofNat 0), .sy (.int 0 f.s1.com), .sy (.bool f.s1.sh), .map 12]])) (.node .leaf (some (.map [(.agg [.int 1 (.ofNat 0), .int 2 (.ofNat 1)], .sy (.int 0 d1_0), 0), (.agg [.int 1 (.ofNat 1), .int 2 (.ofNat 1)], .sy (.int 0 d1_1), 1), (.agg [.int 1 (.ofNat 2), .int 2 (.ofNat 1)], .sy (.int 0 d1_2), 2), (.agg [.int 1 (.ofNat 3), .int 2 (.ofNat 1)], .sy (.int 0 d1_3), 3)] 4)) .leaf)) (some (.prow 100 4 Told f.fly encT)) (.node (.node (.node .leaf (some (.map [(.agg [.int 1 (.ofNat 0), .int 2 (.ofNat 1)], .sy (.int 0 d3_0), 0), (.agg [.int 1 (.ofNat 1), .int 2 (.ofNat 1)], .sy (.int 0 d3_1), 1), (.agg [.int 1 (.ofNat 2), .int 2 (.ofNat 1)], .sy (.int 0 d3_2), 2), (.agg [.int 1 (.ofNat 3), .int 2 (.ofNat 1)], .sy (.int 0 d3_3), 3)] 4)) .leaf) (some (.blk true 31 2 [[.int 1 (.ofNat 0), .int 2 (.ofNat 1)], [.int 1 (.ofNat 1), .int 2 (.ofNat 1)], [.int 1 (.ofNat 2), .int 2 (.ofNat 1)], [.int 1 (.ofNat 3), .int 2 (.ofNat 1)]])) .leaf) (some (.blk false 67 10 [[.int 1 (.ofNat 0), .int 3 (.ofNat 1), .sl 16 0 4 (.rest 0), .sy (.int 1 e3), .int 2 (.ofNat 1), .sy (.prow 17 k4), .int 0 (.ofNat 0), .sy (.int 0 f.s3.com), .sy (.bool f.s3.sh), .map 18]])) (.node .leaf (some (.prow 45 18 Int f.s2.l encK)) .leaf))))
noncomputable def Fd4 (f : F4) (k0 : Nat) (k1 : Nat) (k2 : Nat) (k3 : Nat) (k4 : Nat) : T := (Fg4 f 1 0 0 0 0 2 0 0 0 0 3 0 0 0 0 k0 k1 k2 k3 k4)
noncomputable def Fd4n (f : F4) : T := Fd4 f f.fly.length f.s0.l.length f.s1.l.length f.s2.l.length f.s3.l.length
noncomputable def Fh4 (f : F4) (k0 : Nat) (k1 : Nat) (k2 : Nat) (k3 : Nat) (k4 : Nat) (o : AObj) : T := (.node (.node (.node (.node (.node .leaf (some (.prow 45 18 Int f.s2.l encK)) .leaf) (some (.blk false 67 10 [[.int 1 (.ofNat 0), .int 3 (.ofNat 1), .sl 17 0 4 (.rest 0), .sy (.int 1 3), .int 2 (.ofNat 1), .sy (.prow 18 k4), .int 0 (.ofNat 0), .sy (.int 0 f.s3.com), .sy (.bool f.s3.sh), .map 19]])) .leaf) (some (.prow 100 4 Told f.fly encT)) (.node (.node .leaf (some (.map [(.agg [.int 1 (.ofNat 0), .int 2 (.ofNat 1)], .sy (.int 0 0), 0), (.agg [.int 1 (.ofNat 1), .int 2 (.ofNat 1)], .sy (.int 0 0), 1), (.agg [.int 1 (.ofNat 2), .int 2 (.ofNat 1)], .sy (.int 0 0), 2), (.agg [.int 1 (.ofNat 3), .int 2 (.ofNat 1)], .sy (.int 0 0), 3)] 4)) .leaf) (some (.blk true 31 2 [[.int 1 (.ofNat 0), .int 2 (.ofNat 1)], [.int 1 (.ofNat 1), .int 2 (.ofNat 1)], [.int 1 (.ofNat 2), .int 2 (.ofNat 1)], [.int 1 (.ofNat 3), .int 2 (.ofNat 1)]])) .leaf)) (some (o)) (.node (.node (.node .leaf (some (.blk true 31 2 [[.int 1 (.ofNat 0), .int 2 (.ofNat 1)], [.int 1 (.ofNat 1), .int 2 (.ofNat 1)], [.int 1 (.ofNat 2), .int 2 (.ofNat 1)], [.int 1 (.ofNat 3), .int 2 (.ofNat 1)]])) .leaf) (some (.prow 45 18 Int f.s0.l encK)) .leaf) (some (.blk false 67 10 [[.int 1 (.ofNat 0), .int 3 (.ofNat 1), .sl 11 0 4 (.rest 0), .sy (.int 1 1), .int 2 (.ofNat 1), .sy (.prow 12 k2), .int 0 (.ofNat 0), .sy (.int 0 f.s1.com), .sy (.bool f.s1.sh), .map 13]])) (.node .leaf (some (.map [(.agg [.int 1 (.ofNat 0), .int 2 (.ofNat 1)], .sy (.int 0 0), 0), (.agg [.int 1 (.ofNat 1), .int 2 (.ofNat 1)], .sy (.int 0 0), 1), (.agg [.int 1 (.ofNat 2), .int 2 (.ofNat 1)], .sy (.int 0 0), 2), (.agg [.int 1 (.ofNat 3), .int 2 (.ofNat 1)], .sy (.int 0 0), 3)] 4)) .leaf))) (some (.blk false 81 3 [[.sl 2 0 4 (.rest 0), .sy (.prow 3 k0), .sy (.int 0 f.cnt)]])) (.node (.node (.node (.node .leaf (some (.map [(.agg [.int 1 (.ofNat 0), .int 2 (.ofNat 1)], .sy (.int 0 0), 0), (.agg [.int 1 (.ofNat 1), .int 2 (.ofNat 1)], .sy (.int 0 0), 1), (.agg [.int 1 (.ofNat 2), .int 2 (.ofNat 1)], .sy (.int 0 0), 2), (.agg [.int 1 (.ofNat 3), .int 2 (.ofNat 1)], .sy (.int 0 0), 3)] 4)) .leaf) (some (.blk true 31 2 [[.int 1 (.ofNat 0), .int 2 (.ofNat 1)], [.int 1 (.ofNat 1), .int 2 (.ofNat 1)], [.int 1 (.ofNat 2), .int 2 (.ofNat 1)], [.int 1 (.ofNat 3), .int 2 (.ofNat 1)]])) .leaf) (some (.blk false 67 10 [[.int 1 (.ofNat 0), .int 3 (.ofNat 1), .sl 8 0 4 (.rest 0), .int 1 (.ofNat 0), .int 2 (.ofNat 1), .sy (.prow 9 k1), .int 0 (.ofNat 0), .sy (.int 0 f.s0.com), .sy (.bool f.s0.sh), .map 10]])) (.node .leaf (some (.prow 45 18 Int f.s1.l encK)) .leaf)) (some (.blk true 22 1 [[.ptr 4 0], [.ptr 5 0], [.ptr 6 0], [.ptr 7 0]])) (.node (.node (.node .leaf (some (.prow 45 18 Int f.s3.l encK)) .leaf) (some (.map [(.agg [.int 1 (.ofNat 0), .int 2 (.ofNat 1)], .sy (.int 0 f.c0), 0), (.agg [.int 1 (.ofNat 1), .int 2 (.ofNat 1)], .sy (.int 0 f.c1), 1), (.agg [.int 1 (.ofNat 2), .int 2 (.ofNat 1)], .sy (.int 0 f.c2), 2), (.agg [.int 1 (.ofNat 3), .int 2 (.ofNat 1)], .sy (.int 0 f.c3), 3)] 4)) .leaf) (some (.blk false 67 10 [[.int 1 (.ofNat 0), .int 3 (.ofNat 1), .sl 14 0 4 (.rest 0), .sy (.int 1 2), .int 2 (.ofNat 1), .sy (.prow 15 k3), .int 0 (.ofNat 0), .sy (.int 0 f.s2.com), .sy (.bool f.s2.sh), .map 16]])) (.node .leaf (some (.blk true 31 2 [[.int 1 (.ofNat 0), .int 2 (.ofNat 1)], [.int 1 (.ofNat 1), .int 2 (.ofNat 1)], [.int 1 (.ofNat 2), .int 2 (.ofNat 1)], [.int 1 (.ofNat 3), .int 2 (.ofNat 1)]])) .leaf))))
noncomputable def Fb4 (f : F4) (k : Int) (x : Int) (nn : Int) (i : Int) (k0 : Nat) (k1 : Nat) (k2 : Nat) (k3 : Nat) (k4 : Nat) : T := Fh4 f k0 k1 k2 k3 k4 (.blk false 74 4 [[.sy (.int 0 k), .sy (.int 0 x), .sy (.int 0 nn), .sy (.int 0 i)]])
noncomputable def Fb4n (f : F4) (k : Int) (x : Int) (nn : Int) (i : Int) : T := Fb4 f k x nn i f.fly.length f.s0.l.length f.s1.l.length f.s2.l.length f.s3.l.length
noncomputable def Fg5 (f : F5) (e1 : Int) (d1_0 : Int) (d1_1 : Int) (d1_2 : Int) (d1_3 : Int) (d1_4 : Int) (e2 : Int) (d2_0 : Int) (d2_1 : Int) (d2_2 : Int) (d2_3 : Int) (d2_4 : Int) (e3 : Int) (d3_0 : Int) (d3_1 : Int) (d3_2 : Int) (d3_3 : Int) (d3_4 : Int) (e4 : Int) (d4_0 : Int) (d4_1 : Int) (d4_2 : Int) (d4_3 : Int) (d4_4 : Int) (k0 : Nat) (k1 : Nat) (k2 : Nat) (k3 : Nat) (k4 : Nat) (k5 : Nat) : T := (.node (.node (.node (.node (.node .leaf (some (.prow 45 18 Int f.s2.l encK)) .leaf) (some (.blk false 67 10 [[.int 1 (.ofNat 0), .int 3 (.ofNat 1), .sl 20 0 5 (.rest 0), .sy (.int 1 e4), .int 2 (.ofNat 1), .sy (.prow 21 k5), .int 0 (.ofNat 0), .sy (.int 0 f.s4.com), .sy (.bool f.s4.sh), .map 22]])) .leaf) (some (.blk false 67 10 [[.int 1 (.ofNat 0), .int 3 (.ofNat 1), .sl 8 0 5 (.rest 0), .int 1 (.ofNat 0), .int 2 (.ofNat 1), .sy (.prow 9 k1), .int 0 (.ofNat 0), .sy (.int 0 f.s0.com), .sy (.bool f.s0.sh), .map 10]])) (.node (.node .leaf (some (.map [(.agg [.int 1 (.ofNat 0), .int 2 (.ofNat 1)], .sy (.int 0 d3_0), 0), (.agg [.int 1 (.ofNat 1), .int 2 (.ofNat 1)], .sy (.int 0 d3_1), 1), (.agg [.int 1 (.ofNat 2), .int 2 (.ofNat 1)], .sy (.int 0 d3_2), 2), (.agg [.int 1 (.ofNat 3), .int 2 (.ofNat 1)], .sy (.int 0 d3_3), 3), (.agg [.int 1 (.ofNat 4), .int 2 (.ofNat 1)], .sy (.int 0 d3_4), 4)] 5)) .leaf) (some (.blk true 31 2 [[.int 1 (.ofNat 0), .int 2 (.ofNat 1)], [.int 1 (.ofNat 1), .int 2 (.ofNat 1)], [.int 1 (.ofNat 2), .int 2 (.ofNat 1)], [.int 1 (.ofNat 3), .int 2 (.ofNat 1)], [.int 1 (.ofNat 4), .int 2 (.ofNat 1)]])) .leaf)) (some (.blk true 22 1 [[.ptr 3 0], [.ptr 4 0], [.ptr 5 0], [.ptr 6 0], [.ptr 7 0]])) (.node (.node (.node .leaf (some (.blk true 31 2 [[.int 1 (.ofNat 0), .int 2 (.ofNat 1)], [.int 1 (.ofNat 1), .int 2 (.ofNat 1)], [.int 1 (.ofNat 2), .int 2 (.ofNat 1)], [.int 1 (.ofNat 3), .int 2 (.ofNat 1)], [.int 1 (.ofNat 4), .int 2 (.ofNat 1)]])) .leaf) (some (.prow 45 18 Int f.s0.l encK)) .leaf) (some (.blk false 67 10 [[.int 1 (.ofNat 0), .int 3 (.ofNat 1), .sl 14 0 5 (.rest 0), .sy (.int 1 e2), .int 2 (.ofNat 1), .sy (.prow 15 k3), .int 0 (.ofNat 0), .sy (.int 0 f.s2.com), .sy (.bool f.s2.sh), .map 16]])) (.node (.node .leaf (some (.prow 45 18 Int f.s4.l encK)) .leaf) (some (.map [(.agg [.int 1 (.ofNat 0), .int 2 (.ofNat 1)], .sy (.int 0 d1_0), 0), (.agg [.int 1 (.ofNat 1), .int 2 (.ofNat 1)], .sy (.int 0 d1_1), 1), (.agg [.int 1 (.ofNat 2), .int 2 (.ofNat 1)], .sy (.int 0 d1_2), 2), (.agg [.int 1 (.ofNat 3), .int 2 (.ofNat 1)], .sy (.int 0 d1_3), 3), (.agg [.int 1 (.ofNat 4), .int 2 (.ofNat 1)], .sy (.int 0 d1_4), 4)] 5)) .leaf))) (some (.blk false 81 3 [[.sl 1 0 5 (.rest 0), .sy (.prow 2 k0), .sy (.int 0 f.cnt)]])) (.node (.node (.node (.node .leaf (some (.map [(.agg [.int 1 (.ofNat 0), .int 2 (.ofNat 1)], .sy (.int 0 d2_0), 0), (.agg [.int 1 (.ofNat 1), .int 2 (.ofNat 1)], .sy (.int 0 d2_1), 1), (.agg [.int 1 (.ofNat 2), .int 2 (.ofNat 1)], .sy (.int 0 d2_2), 2), (.agg [.int 1 (.ofNat 3), .int 2 (.ofNat 1)], .sy (.int 0 d2_3), 3), (.agg [.int 1 (.ofNat 4), .int 2 (.ofNat 1)], .sy (.int 0 d2_4), 4)] 5)) .leaf) (some (.blk true 31 2 [[.int 1 (.ofNat 0), .int 2 (.ofNat 1)], [.int 1 (.ofNat 1), .int 2 (.ofNat 1)], [.int 1 (.ofNat 2), .int 2 (.ofNat 1)], [.int 1 (.ofNat 3), .int 2 (.ofNat 1)], [.int 1 (.ofNat 4), .int 2 (.ofNat 1)]])) .leaf) (some (.blk false 67 10 [[.int 1 (.ofNat 0), .int 3 (.ofNat 1), .sl 11 0 5 (.rest 0), .sy (.int 1 e1), .int 2 (.ofNat 1), .sy (.prow 12 k2), .int 0 (.ofNat 0), .sy (.int 0 f.s1.com), .sy (.bool f.s1.sh), .map 13]])) (.node (.node .leaf (some (.blk true 31 2 [[.int 1 (.ofNat 0), .int 2 (.ofNat 1)], [.int 1 (.ofNat 1), .int 2 (.ofNat 1)], [.int 1 (.ofNat 2), .int 2 (.ofNat 1)], [.int 1 (.ofNat 3), .int 2 (.ofNat 1)], [.int 1 (.ofNat 4), .int 2 (.ofNat 1)]])) .leaf) (some (.prow 45 18 Int f.s1.l encK)) .leaf)) (some (.prow 100 4 Told f.fly encT)) (.node (.node (.node .leaf (some (.prow 45 18 Int f.s3.l encK)) .leaf) (some (.map [(.agg [.int 1 (.ofNat 0), .int 2 (.ofNat 1)], .sy (.int 0 f.c0), 0), (.agg [.int 1 (.ofNat 1), .int 2 (.ofNat 1)], .sy (.int 0 f.c1), 1), (.agg [.int 1 (.ofNat 2), .int 2 (.ofNat 1)], .sy (.int 0 f.c2), 2), (.agg [.int 1 (.ofNat 3), .int 2 (.ofNat 1)], .sy (.int 0 f.c3), 3), (.agg [.int 1 (.ofNat 4), .int 2 (.ofNat 1)], .sy (.int 0 f.c4), 4)] 5)) .leaf) (some (.blk false 67 10 [[.int 1 (.ofNat 0), .int 3 (.ofNat 1), .sl 17 0 5 (.rest 0), .sy (.int 1 e3), .int 2 (.ofNat 1), .sy (.prow 18 k4), .int 0 (.ofNat 0), .sy (.int 0 f.s3.com), .sy (.bool f.s3.sh), .map 19]])) (.node (.node .leaf (some (.map [(.agg [.int 1 (.ofNat 0), .int 2 (.ofNat 1)], .sy (.int 0 d4_0), 0), (.agg [.int 1 (.ofNat 1), .int 2 (.ofNat 1)], .sy (.int 0 d4_1), 1), (.agg [.int 1 (.ofNat 2), .int 2 (.ofNat 1)], .sy (.int 0 d4_2), 2), (.agg [.int 1 (.ofNat 3), .int 2 (.ofNat 1)], .sy (.int 0 d4_3), 3), (.agg [.int 1 (.ofNat 4), .int 2 (.ofNat 1)], .sy (.int 0 d4_4), 4)] 5)) .leaf) (some (.blk true 31 2 [[.int 1 (.ofNat 0), .int 2 (.ofNat 1)], [.int 1 (.ofNat 1), .int 2 (.ofNat 1)], [.int 1 (.ofNat 2), .int 2 (.ofNat 1)], [.int 1 (.ofNat 3), .int 2 (.ofNat 1)], [.int 1 (.ofNat 4), .int 2 (.ofNat 1)]])) .leaf))))
noncomputable def Fd5 (f : F5) (k0 : Nat) (k1 : Nat) (k2 : Nat) (k3 : Nat) (k4 : Nat) (k5 : Nat) : T := (Fg5 f 1 0 0 0 0 0 2 0 0 0 0 0 3 0 0 0 0 0 4 0 0 0 0 0 k0 k1 k2 k3 k4 k5)
noncomputable def Fd5n (f : F5) : T := Fd5 f f.fly.length f.s0.l.length f.s1.l.length f.s2.l.length f.s3.l.length f.s4.l.length
noncomputable def Fh5 (f : F5) (k0 : Nat) (k1 : Nat) (k2 : Nat) (k3 : Nat) (k4 : Nat) (k5 : Nat) (o : AObj) : T := (.node (.node (.node (.node (.node .leaf (some (.blk true 31 2 [[.int 1 (.ofNat 0), .int 2 (.ofNat 1)], [.int 1 (.ofNat 1), .int 2 (.ofNat 1)], [.int 1 (.ofNat 2), .int 2 (.ofNat 1)], [.int 1 (.ofNat 3), .int 2 (.ofNat 1)], [.int 1 (.ofNat 4), .int 2 (.ofNat 1)]])) .leaf) (some (.blk false 67 10 [[.int 1 (.ofNat 0), .int 3 (.ofNat 1), .sl 18 0 5 (.rest 0), .sy (.int 1 3), .int 2 (.ofNat 1), .sy (.prow 19 k4), .int 0 (.ofNat 0), .sy (.int 0 f.s3.com), .sy (.bool f.s3.sh), .map 20]])) (.node .leaf (some (.map [(.agg [.int 1 (.ofNat 0), .int 2 (.ofNat 1)], .sy (.int 0 0), 0), (.agg [.int 1 (.ofNat 1), .int 2 (.ofNat 1)], .sy (.int 0 0), 1), (.agg [.int 1 (.ofNat 2), .int 2 (.ofNat 1)], .sy (.int 0 0), 2), (.agg [.int 1 (.ofNat 3), .int 2 (.ofNat 1)], .sy (.int 0 0), 3), (.agg [.int 1 (.ofNat 4), .int 2 (.ofNat 1)], .sy (.int 0 0), 4)] 5)) .leaf)) (some (.prow 100 4 Told f.fly encT)) (.node (.node .leaf (some (.prow 45 18 Int f.s3.l encK)) .leaf) (some (.map [(.agg [.int 1 (.ofNat 0), .int 2 (.ofNat 1)], .sy (.int 0 f.c0), 0), (.agg [.int 1 (.ofNat 1), .int 2 (.ofNat 1)], .sy (.int 0 f.c1), 1), (.agg [.int 1 (.ofNat 2), .int 2 (.ofNat 1)], .sy (.int 0 f.c2), 2), (.agg [.int 1 (.ofNat 3), .int 2 (.ofNat 1)], .sy (.int 0 f.c3), 3), (.agg [.int 1 (.ofNat 4), .int 2 (.ofNat 1)], .sy (.int 0 f.c4), 4)] 5)) .leaf)) (some (o)) (.node (.node (.node .leaf (some (.map [(.agg [.int 1 (.ofNat 0), .int 2 (.ofNat 1)], .sy (.int 0 0), 0), (.agg [.int 1 (.ofNat 1), .int 2 (.ofNat 1)], .sy (.int 0 0), 1), (.agg [.int 1 (.ofNat 2), .int 2 (.ofNat 1)], .sy (.int 0 0), 2), (.agg [.int 1 (.ofNat 3), .int 2 (.ofNat 1)], .sy (.int 0 0), 3), (.agg [.int 1 (.ofNat 4), .int 2 (.ofNat 1)], .sy (.int 0 0), 4)] 5)) .leaf) (some (.blk true 31 2 [[.int 1 (.ofNat 0), .int 2 (.ofNat 1)], [.int 1 (.ofNat 1), .int 2 (.ofNat 1)], [.int 1 (.ofNat 2), .int 2 (.ofNat 1)], [.int 1 (.ofNat 3), .int 2 (.ofNat 1)], [.int 1 (.ofNat 4), .int 2 (.ofNat 1)]])) .leaf) (some (.blk false 67 10 [[.int 1 (.ofNat 0), .int 3 (.ofNat 1), .sl 12 0 5 (.rest 0), .sy (.int 1 1), .int 2 (.ofNat 1), .sy (.prow 13 k2), .int 0 (.ofNat 0), .sy (.int 0 f.s1.com), .sy (.bool f.s1.sh), .map 14]])) (.node (.node .leaf (some (.blk true 31 2 [[.int 1 (.ofNat 0), .int 2 (.ofNat 1)], [.int 1 (.ofNat 1), .int 2 (.ofNat 1)], [.int 1 (.ofNat 2), .int 2 (.ofNat 1)], [.int 1 (.ofNat 3), .int 2 (.ofNat 1)], [.int 1 (.ofNat 4), .int 2 (.ofNat 1)]])) .leaf) (some (.prow 45 18 Int f.s1.l encK)) .leaf))) (some (.blk false 81 3 [[.sl 2 0 5 (.rest 0), .sy (.prow 3 k0), .sy (.int 0 f.cnt)]])) (.node (.node (.node (.node .leaf (some (.prow 45 18 Int f.s2.l encK)) .leaf) (some (.blk false 67 10 [[.int 1 (.ofNat 0), .int 3 (.ofNat 1), .sl 21 0 5 (.rest 0), .sy (.int 1 4), .int 2 (.ofNat 1), .sy (.prow 22 k5), .int 0 (.ofNat 0), .sy (.int 0 f.s4.com), .sy (.bool f.s4.sh), .map 23]])) .leaf) (some (.blk false 67 10 [[.int 1 (.ofNat 0), .int 3 (.ofNat 1), .sl 9 0 5 (.rest 0), .int 1 (.ofNat 0), .int 2 (.ofNat 1), .sy (.prow 10 k1), .int 0 (.ofNat 0), .sy (.int 0 f.s0.com), .sy (.bool f.s0.sh), .map 11]])) (.node (.node .leaf (some (.map [(.agg [.int 1 (.ofNat 0), .int 2 (.ofNat 1)], .sy (.int 0 0), 0), (.agg [.int 1 (.ofNat 1), .int 2 (.ofNat 1)], .sy (.int 0 0), 1), (.agg [.int 1 (.ofNat 2), .int 2 (.ofNat 1)], .sy (.int 0 0), 2), (.agg [.int 1 (.ofNat 3), .int 2 (.ofNat 1)], .sy (.int 0 0), 3), (.agg [.int 1 (.ofNat 4), .int 2 (.ofNat 1)], .sy (.int 0 0), 4)] 5)) .leaf) (some (.blk true 31 2 [[.int 1 (.ofNat 0), .int 2 (.ofNat 1)], [.int 1 (.ofNat 1), .int 2 (.ofNat 1)], [.int 1 (.ofNat 2), .int 2 (.ofNat 1)], [.int 1 (.ofNat 3), .int 2 (.ofNat 1)], [.int 1 (.ofNat 4), .int 2 (.ofNat 1)]])) .leaf)) (some (.blk true 22 1 [[.ptr 4 0], [.ptr 5 0], [.ptr 6 0], [.ptr 7 0], [.ptr 8 0]])) (.node (.node (.node .leaf (some (.blk true 31 2 [[.int 1 (.ofNat 0), .int 2 (.ofNat 1)], [.int 1 (.ofNat 1), .int 2 (.ofNat 1)], [.int 1 (.ofNat 2), .int 2 (.ofNat 1)], [.int 1 (.ofNat 3), .int 2 (.ofNat 1)], [.int 1 (.ofNat 4), .int 2 (.ofNat 1)]])) .leaf) (some (.prow 45 18 Int f.s0.l encK)) .leaf) (some (.blk false 67 10 [[.int 1 (.ofNat 0), .int 3 (.ofNat 1), .sl 15 0 5 (.rest 0), .sy (.int 1 2), .int 2 (.ofNat 1), .sy (.prow 16 k3), .int 0 (.ofNat 0), .sy (.int 0 f.s2.com), .sy (.bool f.s2.sh), .map 17]])) (.node (.node .leaf (some (.prow 45 18 Int f.s4.l encK)) .leaf) (some (.map [(.agg [.int 1 (.ofNat 0), .int 2 (.ofNat 1)], .sy (.int 0 0), 0), (.agg [.int 1 (.ofNat 1), .int 2 (.ofNat 1)], .sy (.int 0 0), 1), (.agg [.int 1 (.ofNat 2), .int 2 (.ofNat 1)], .sy (.int 0 0), 2), (.agg [.int 1 (.ofNat 3), .int 2 (.ofNat 1)], .sy (.int 0 0), 3), (.agg [.int 1 (.ofNat 4), .int 2 (.ofNat 1)], .sy (.int 0 0), 4)] 5)) .leaf))))
noncomputable def Fb5 (f : F5) (k : Int) (x : Int) (nn : Int) (i : Int) (k0 : Nat) (k1 : Nat) (k2 : Nat) (k3 : Nat) (k4 : Nat) (k5 : Nat) : T := Fh5 f k0 k1 k2 k3 k4 k5 (.blk false 74 4 [[.sy (.int 0 k), .sy (.int 0 x), .sy (.int 0 nn), .sy (.int 0 i)]])
noncomputable def Fb5n (f : F5) (k : Int) (x : Int) (nn : Int) (i : Int) : T := Fb5 f k x nn i f.fly.length f.s0.l.length f.s1.l.length f.s2.l.length f.s3.l.length f.s4.l.length
def ft_right1 : XF := .mk 75 (.one 2) (.seq (g_ 1 [p_ 0 2 (.mv (.c (.bool false)))]) (.seq (.aft (g_ 8 [p_ 0 6 (m_ 0), p_ 1 7 (n_ 6), p_ 2 8 (f_ 0 7), r_ 3 9 (l_ 8), p_ 4 10 (.ixs 1 (.t 9) (i_ 0)), r_ 5 11 (l_ 10), c_ 6 12 23 [.t 11], p_ 7 3 (m_ 12)]) [(0, [.frz 3])]) (.seq (.seq (g_ 1 [p_ 0 4 (.mv (i_ 0))]) (.block 2 (.loop [0, 2, 3, 4, 5, 13, 14, 15, 16, 17, 18, 19, 20, 21, 22, 23, 24, 25, 26, 27, 28, 29, 30, 31, 32, 33, 34, 35, 36, 37, 38, 39, 40, 41, 42, 43, 44, 45, 46, 47, 48, 49, 50, 51, 52, 53, 54, 55, 56, 57, 58, 59, 60, 61, 62, 63, 64, 65, 66, 67, 68, 69, 70, 71, 72, 73, 74] (.seq (.seq (g_ 7 [p_ 0 13 (m_ 4), p_ 1 14 (m_ 0), p_ 2 15 (n_ 14), p_ 3 16 (f_ 0 15), r_ 4 17 (l_ 16), p_ 5 18 (k_ 17), p_ 6 19 (.bin 3 0 (.t 13) (.t 18))]) (.cond (.t 19) .skip (.exit 2))) (.seq (.block 3 (.seq (.aft (g_ 9 [p_ 0 22 (m_ 0), p_ 1 23 (n_ 22), p_ 2 24 (f_ 0 23), r_ 3 25 (l_ 24), p_ 4 26 (m_ 4), p_ 5 27 (.ixs 1 (.t 25) (.t 26)), r_ 6 28 (l_ 27), c_ 7 29 23 [.t 28], p_ 8 5 (m_ 29)]) [(0, [.frz 5])]) (.seq (h_ 45 [p_ 0 30 (m_ 5), p_ 1 31 (k_ 30), p_ 2 32 (m_ 3), p_ 3 33 (k_ 32), p_ 4 34 (.bin 3 2 (.t 31) (.t 33)), p_ 5 35 (m_ 34), pg_ 6 36 35 false (m_ 5), pg_ 7 37 35 false (m_ 3), pg_ 8 38 35 false (m_ 5), pg_ 9 39 35 false (k_ 38), rg_ 10 40 35 false (.sls 18 (.t 37) none (some (.t 39)) none), cg_ 11 41 35 false 42 [.t 36, .t 40], pg_ 12 42 35 false (.un 0 (.t 41)), p_ 13 43 (.pick (.t 35) (.c (.bool true)) (.t 42)), p_ 14 44 (m_ 43), pg_ 15 45 44 false (m_ 0), pg_ 16 46 44 false (n_ 45), pg_ 17 47 44 false (f_ 0 46), rg_ 18 48 44 false (l_ 47), pg_ 19 49 44 false (m_ 4), pg_ 20 50 44 false (.ixs 1 (.t 48) (.t 49)), rg_ 21 51 44 false (l_ 50), pg_ 23 53 44 false (m_ 5), pg_ 24 54 44 false (k_ 53), cg_ 22 52 44 false 14 [.t 51], pg_ 25 55 44 false (.bin 3 2 (.t 52) (.t 54)), p_ 26 56 (.pick (.t 44) (.c (.bool true)) (.t 55)), p_ 27 57 (m_ 56), pg_ 28 58 57 false (m_ 0), pg_ 29 59 57 false (n_ 58), pg_ 30 60 57 false (f_ 0 59), rg_ 31 61 57 false (l_ 60), pg_ 32 62 57 false (m_ 4), pg_ 33 63 57 false (.ixs 1 (.t 61) (.t 62)), rg_ 34 64 57 false (l_ 63), pg_ 36 66 57 false (m_ 0), pg_ 37 67 57 false (n_ 66), pg_ 38 68 57 false (f_ 0 67), rg_ 39 69 57 false (l_ 68), pg_ 40 70 57 false (.ixs 1 (.t 69) (i_ 0)), rg_ 41 71 57 false (l_ 70), cg_ 35 65 57 false 14 [.t 64], ag_ 39 69 57 false (l_ 68), ag_ 41 71 57 false (l_ 70), cg_ 42 72 57 false 14 [.t 71], pg_ 43 73 57 false (.bin 3 2 (.t 65) (.t 72)), p_ 44 74 (.pick (.t 57) (.c (.bool true)) (.t 73))]) (.cond (.t 74) (.seq (g_ 1 [p_ 0 2 (.mv (.c (.bool false)))]) .ret) .skip)))) (g_ 3 [p_ 0 20 (m_ 4), p_ 1 21 (.bin 0 0 (.t 20) (i_ 1)), p_ 2 4 (m_ 21)])))))) (.seq (g_ 1 [p_ 0 2 (.mv (.c (.bool true)))]) .ret))))
theorem ft_right1_ok : chkF Try.prog 29 ft_right1 = true := by kernel_rfl
structure A_right1 where
 f : F1
noncomputable def I_right1 (p : A_right1) : IE := ([.ptr 0 0], (Fd1n p.f), 7)
noncomputable def out_right1 (p : A_right1) (K : KE) : Bool := K (.bool true) (Fd1n p.f) 7
def pre_right1 (p : A_right1) : Prop := FI1 p.f
theorem vf_right1 (p : A_right1) (K : KE) (hpre : pre_right1 p) (hK : out_right1 p K = true) : (funE 1 (cfT nat_eqf) noLp 600 ft_right1 (I_right1 p).1 (I_right1 p).2.1 (I_right1 p).2.2 K) = true := by
 refine Eq.trans (b := (useC (([.sy (.prow 0 p.f.s0.l.length)], (.node .leaf (some (.prow 45 18 Int p.f.s0.l encK)) .leaf), 1)) I_clones_prow pre_clones_prow po_clones_prow fun p1 r1 => mP (r1.o.length = r1.o.length) (mP (r1.o.length = r1.o.length) (allB fun h1 : Value => useC (([.sy (.prow 0 p.f.s0.l.length)], (.node .leaf (some (.prow 45 18 Int p1.l encK)) .leaf), 1)) I_clones_prow pre_clones_prow po_clones_prow fun p2 r2 => mP (r2.o.length = r2.o.length) (mP (r2.o.length = r2.o.length) (allB fun h2 : Value => iP ((r1.o.length : Int) < (r2.o.length : Int)) (K (.bool false) (Fd1 ({ p.f with s0 := ({ p.f.s0 with l := p2.l } : Rl) } : F1) p.f.fly.length p.f.s0.l.length) 7) (mP (0 ≤ (0 : Int) ∧ (0 : Int) ≤ (r2.o.length : Int) ∧ (r2.o.length : Int) ≤ (r1.o.length : Int)) (useC (([.sy (.imm h2 18 Int r2.o encK), .sy (.imm (hsl h1 18 0 r2.o.length) 18 Int ((r1.o.drop 0).take (r2.o.length - 0)) encK), .fn 62 []], .leaf, 0)) I_eqf pre_eqf po_eqf fun p3 r3 => iP (¬ r3.q) (K (.bool false) (Fd1 ({ p.f with s0 := ({ p.f.s0 with l := p2.l } : Rl) } : F1) p.f.fly.length p.f.s0.l.length) 7) (iP ((r2.o.length : Int) < p.f.s0.com) (K (.bool false) (Fd1 ({ p.f with s0 := ({ p.f.s0 with l := p2.l } : Rl) } : F1) p.f.fly.length p.f.s0.l.length) 7) (iP (p.f.s0.com < p.f.s0.com) (K (.bool false) (Fd1 ({ p.f with s0 := ({ p.f.s0 with l := p2.l } : Rl) } : F1) p.f.fly.length p.f.s0.l.length) 7) (K (.bool true) (Fd1 ({ p.f with s0 := ({ p.f.s0 with l := p2.l } : Rl) } : F1) p.f.fly.length p.f.s0.l.length) 7))))))))))) (by kernel_rfl) ?_
 dsimp only [pre_right1] at hpre
 have hinv : FInv p.f.s0 _ _ _ := hpre
 have g : p.f.s0.l.length ≤ 400 := hinv.short
 obtain ⟨u0, v0, w0, z0⟩ : RightP p.f.s0 p.f.s0 := hinv.right (j := 0) rfl
 refine callPR (⟨p.f.s0.l⟩ : A_clones_prow) rfl (by (try dsimp only [pre_clones_prow]); first | omega | (simp only [List.length_take, List.length_drop]; omega)) fun r1 hi1 => ?_
 dsimp only [po_clones_prow] at hi1
 refine mI (rfl) (mI (rfl) ?_)
 refine allB_mk (fun h1 => ?_)
 refine callPR (⟨p.f.s0.l⟩ : A_clones_prow) rfl (by (try dsimp only [pre_clones_prow]); first | omega | (simp only [List.length_take, List.length_drop]; omega)) fun r2 hi2 => ?_
 dsimp only [po_clones_prow] at hi2
 refine mI (rfl) (mI (rfl) ?_)
 refine allB_mk (fun h2 => ?_)
 refine iI (fun hc3 => ?_) (fun hc3 => ?_)
 first | (exfalso; omega) | (exfalso; exact dead_right (by assumption) (by assumption) (by assumption) (by assumption) (by assumption))
 refine mI (by first | omega | (simp only [List.length_take, List.length_drop]; omega)) ?_
 refine callPR (⟨h2, r2.o, hsl h1 18 0 r2.o.length, (r1.o.drop 0).take (r2.o.length - 0)⟩ : A_eqf) rfl (by (try dsimp only [pre_eqf]); first | omega | (simp only [List.length_take, List.length_drop]; omega)) fun r3 hi4 => ?_
 dsimp only [po_eqf] at hi4
 refine iI (fun hc5 => ?_) (fun hc5 => ?_)
 first | (exfalso; omega) | (exfalso; exact dead_right (by assumption) (by assumption) (by assumption) (by assumption) (by assumption))
 refine iI (fun hc6 => ?_) (fun hc6 => ?_)
 first | (exfalso; omega) | (exfalso; exact dead_right (by assumption) (by assumption) (by assumption) (by assumption) (by assumption))
 refine iI (fun hc7 => ?_) (fun hc7 => ?_)
 first | (exfalso; omega) | (exfalso; exact dead_right (by assumption) (by assumption) (by assumption) (by assumption) (by assumption))
 exact hK
noncomputable def ec_right1 : SpecE := tstE (elB 1 1) (esOf I_right1 (spP pre_right1 out_right1)) (fun _ _ _ _ => false)
theorem nc_right1 : NatE Try.prog 29 1 ec_right1 := tstE_ok (natE_pl (f := 29) (k := 1) (cfT_ok nat_eqf_ok) ft_right1_ok (by rfl) (by rfl) vf_right1) natE_no
noncomputable def nat_right1 := natC nat_eqf 1 ec_right1 29 [(0, 4)]
theorem nat_right1_ok : NatsOk Try.prog nat_right1 := natC_ok nc_right1 nat_eqf_ok
def ft_right2 : XF := ft_right1
theorem ft_right2_ok : chkF Try.prog 29 ft_right2 = true := ft_right1_ok
structure A_right2 where
 f : F2
noncomputable def I_right2 (p : A_right2) : IE := ([.ptr 0 0], (Fd2n p.f), 11)
noncomputable def out_right2 (p : A_right2) (K : KE) : Bool := K (.bool true) (Fd2n p.f) 11
def pre_right2 (p : A_right2) : Prop := FI2 p.f
theorem vf_right2 (p : A_right2) (K : KE) (hpre : pre_right2 p) (hK : out_right2 p K = true) : (funE 1 (cfT nat_right1) noLp 600 ft_right2 (I_right2 p).1 (I_right2 p).2.1 (I_right2 p).2.2 K) = true := by
 refine Eq.trans (b := (useC (([.sy (.prow 0 p.f.s0.l.length)], (.node .leaf (some (.prow 45 18 Int p.f.s0.l encK)) .leaf), 1)) I_clones_prow pre_clones_prow po_clones_prow fun p1 r1 => mP (r1.o.length = r1.o.length) (mP (r1.o.length = r1.o.length) (allB fun h1 : Value => useC (([.sy (.prow 0 p.f.s0.l.length)], (.node .leaf (some (.prow 45 18 Int p1.l encK)) .leaf), 1)) I_clones_prow pre_clones_prow po_clones_prow fun p2 r2 => mP (r2.o.length = r2.o.length) (mP (r2.o.length = r2.o.length) (allB fun h2 : Value => iP ((r1.o.length : Int) < (r2.o.length : Int)) (K (.bool false) (Fd2 ({ p.f with s0 := ({ p.f.s0 with l := p2.l } : Rl) } : F2) p.f.fly.length p.f.s0.l.length p.f.s1.l.length) 11) (mP (0 ≤ (0 : Int) ∧ (0 : Int) ≤ (r2.o.length : Int) ∧ (r2.o.length : Int) ≤ (r1.o.length : Int)) (useC (([.sy (.imm h2 18 Int r2.o encK), .sy (.imm (hsl h1 18 0 r2.o.length) 18 Int ((r1.o.drop 0).take (r2.o.length - 0)) encK), .fn 62 []], .leaf, 0)) I_eqf pre_eqf po_eqf fun p3 r3 => iP (¬ r3.q) (K (.bool false) (Fd2 ({ p.f with s0 := ({ p.f.s0 with l := p2.l } : Rl) } : F2) p.f.fly.length p.f.s0.l.length p.f.s1.l.length) 11) (iP ((r2.o.length : Int) < p.f.s0.com) (K (.bool false) (Fd2 ({ p.f with s0 := ({ p.f.s0 with l := p2.l } : Rl) } : F2) p.f.fly.length p.f.s0.l.length p.f.s1.l.length) 11) (iP (p.f.s0.com < p.f.s0.com) (K (.bool false) (Fd2 ({ p.f with s0 := ({ p.f.s0 with l := p2.l } : Rl) } : F2) p.f.fly.length p.f.s0.l.length p.f.s1.l.length) 11) (useC (([.sy (.prow 0 p.f.s1.l.length)], (.node .leaf (some (.prow 45 18 Int p.f.s1.l encK)) .leaf), 1)) I_clones_prow pre_clones_prow po_clones_prow fun p4 r4 => mP (r4.o.length = r4.o.length) (mP (r4.o.length = r4.o.length) (allB fun h3 : Value => iP ((r1.o.length : Int) < (r4.o.length : Int)) (K (.bool false) (Fd2 ({ p.f with s0 := ({ p.f.s0 with l := p2.l } : Rl), s1 := ({ p.f.s1 with l := p4.l } : Rl) } : F2) p.f.fly.length p.f.s0.l.length p.f.s1.l.length) 11) (mP (0 ≤ (0 : Int) ∧ (0 : Int) ≤ (r4.o.length : Int) ∧ (r4.o.length : Int) ≤ (r1.o.length : Int)) (useC (([.sy (.imm h3 18 Int r4.o encK), .sy (.imm (hsl h1 18 0 r4.o.length) 18 Int ((r1.o.drop 0).take (r4.o.length - 0)) encK), .fn 62 []], .leaf, 0)) I_eqf pre_eqf po_eqf fun p5 r5 => iP (¬ r5.q) (K (.bool false) (Fd2 ({ p.f with s0 := ({ p.f.s0 with l := p2.l } : Rl), s1 := ({ p.f.s1 with l := p4.l } : Rl) } : F2) p.f.fly.length p.f.s0.l.length p.f.s1.l.length) 11) (iP ((r4.o.length : Int) < p.f.s1.com) (K (.bool false) (Fd2 ({ p.f with s0 := ({ p.f.s0 with l := p2.l } : Rl), s1 := ({ p.f.s1 with l := p4.l } : Rl) } : F2) p.f.fly.length p.f.s0.l.length p.f.s1.l.length) 11) (iP (p.f.s0.com < p.f.s1.com) (K (.bool false) (Fd2 ({ p.f with s0 := ({ p.f.s0 with l := p2.l } : Rl), s1 := ({ p.f.s1 with l := p4.l } : Rl) } : F2) p.f.fly.length p.f.s0.l.length p.f.s1.l.length) 11) (K (.bool true) (Fd2 ({ p.f with s0 := ({ p.f.s0 with l := p2.l } : Rl), s1 := ({ p.f.s1 with l := p4.l } : Rl) } : F2) p.f.fly.length p.f.s0.l.length p.f.s1.l.length) 11)))))))))))))))))) (by kernel_rfl) ?_
 dsimp only [pre_right2] at hpre
 have hinv : FInv p.f.s0 _ _ _ := hpre
 have g : p.f.s0.l.length ≤ 400 := hinv.short
 obtain ⟨u0, v0, w0, z0⟩ : RightP p.f.s0 p.f.s0 := hinv.right (j := 0) rfl
 obtain ⟨u1, v1, w1, z1⟩ : RightP p.f.s0 p.f.s1 := hinv.right (j := 1) rfl
 refine callPR (⟨p.f.s0.l⟩ : A_clones_prow) rfl (by (try dsimp only [pre_clones_prow]); first | omega | (simp only [List.length_take, List.length_drop]; omega)) fun r1 hi1 => ?_
 dsimp only [po_clones_prow] at hi1
 refine mI (rfl) (mI (rfl) ?_)
 refine allB_mk (fun h1 => ?_)
 refine callPR (⟨p.f.s0.l⟩ : A_clones_prow) rfl (by (try dsimp only [pre_clones_prow]); first | omega | (simp only [List.length_take, List.length_drop]; omega)) fun r2 hi2 => ?_
 dsimp only [po_clones_prow] at hi2
 refine mI (rfl) (mI (rfl) ?_)
 refine allB_mk (fun h2 => ?_)
 refine iI (fun hc3 => ?_) (fun hc3 => ?_)
 first | (exfalso; omega) | (exfalso; exact dead_right (by assumption) (by assumption) (by assumption) (by assumption) (by assumption))
 refine mI (by first | omega | (simp only [List.length_take, List.length_drop]; omega)) ?_
 refine callPR (⟨h2, r2.o, hsl h1 18 0 r2.o.length, (r1.o.drop 0).take (r2.o.length - 0)⟩ : A_eqf) rfl (by (try dsimp only [pre_eqf]); first | omega | (simp only [List.length_take, List.length_drop]; omega)) fun r3 hi4 => ?_
 dsimp only [po_eqf] at hi4
 refine iI (fun hc5 => ?_) (fun hc5 => ?_)
 first | (exfalso; omega) | (exfalso; exact dead_right (by assumption) (by assumption) (by assumption) (by assumption) (by assumption))
 refine iI (fun hc6 => ?_) (fun hc6 => ?_)
 first | (exfalso; omega) | (exfalso; exact dead_right (by assumption) (by assumption) (by assumption) (by assumption) (by assumption))
 refine iI (fun hc7 => ?_) (fun hc7 => ?_)
 first | (exfalso; omega) | (exfalso; exact dead_right (by assumption) (by assumption) (by assumption) (by assumption) (by assumption))
 refine callPR (⟨p.f.s1.l⟩ : A_clones_prow) rfl (by (try dsimp only [pre_clones_prow]); first | omega | (simp only [List.length_take, List.length_drop]; omega)) fun r4 hi8 => ?_
 dsimp only [po_clones_prow] at hi8
 refine mI (rfl) (mI (rfl) ?_)
 refine allB_mk (fun h3 => ?_)
 refine iI (fun hc9 => ?_) (fun hc9 => ?_)
 first | (exfalso; omega) | (exfalso; exact dead_right (by assumption) (by assumption) (by assumption) (by assumption) (by assumption))
 refine mI (by first | omega | (simp only [List.length_take, List.length_drop]; omega)) ?_
 refine callPR (⟨h3, r4.o, hsl h1 18 0 r4.o.length, (r1.o.drop 0).take (r4.o.length - 0)⟩ : A_eqf) rfl (by (try dsimp only [pre_eqf]); first | omega | (simp only [List.length_take, List.length_drop]; omega)) fun r5 hi10 => ?_
 dsimp only [po_eqf] at hi10
 refine iI (fun hc11 => ?_) (fun hc11 => ?_)
 first | (exfalso; omega) | (exfalso; exact dead_right (by assumption) (by assumption) (by assumption) (by assumption) (by assumption))
 refine iI (fun hc12 => ?_) (fun hc12 => ?_)
 first | (exfalso; omega) | (exfalso; exact dead_right (by assumption) (by assumption) (by assumption) (by assumption) (by assumption))
 refine iI (fun hc13 => ?_) (fun hc13 => ?_)
 first | (exfalso; omega) | (exfalso; exact dead_right (by assumption) (by assumption) (by assumption) (by assumption) (by assumption))
 exact hK
noncomputable def ec_right2 : SpecE := tstE (elB 1 2) (esOf I_right2 (spP pre_right2 out_right2)) ec_right1
theorem nc_right2 : NatE Try.prog 29 1 ec_right2 := tstE_ok (natE_pl (f := 29) (k := 1) (cfT_ok nat_right1_ok) ft_right2_ok (by rfl) (by rfl) vf_right2) nc_right1
noncomputable def nat_right2 := natC nat_right1 1 ec_right2 29 [(0, 4)]
theorem nat_right2_ok : NatsOk Try.prog nat_right2 := natC_ok nc_right2 nat_right1_ok
def ft_right3 : XF := ft_right1
theorem ft_right3_ok : chkF Try.prog 29 ft_right3 = true := ft_right1_ok
structure A_right3 where
 f : F3
noncomputable def I_right3 (p : A_right3) : IE := ([.ptr 0 0], (Fd3n p.f), 15)
noncomputable def out_right3 (p : A_right3) (K : KE) : Bool := K (.bool true) (Fd3n p.f) 15
def pre_right3 (p : A_right3) : Prop := FI3 p.f
theorem vf_right3 (p : A_right3) (K : KE) (hpre : pre_right3 p) (hK : out_right3 p K = true) : (funE 1 (cfT nat_right2) noLp 600 ft_right3 (I_right3 p).1 (I_right3 p).2.1 (I_right3 p).2.2 K) = true := by
 refine Eq.trans (b := (useC (([.sy (.prow 0 p.f.s0.l.length)], (.node .leaf (some (.prow 45 18 Int p.f.s0.l encK)) .leaf), 1)) I_clones_prow pre_clones_prow po_clones_prow fun p1 r1 => mP (r1.o.length = r1.o.length) (mP (r1.o.length = r1.o.length) (allB fun h1 : Value => useC (([.sy (.prow 0 p.f.s0.l.length)], (.node .leaf (some (.prow 45 18 Int p1.l encK)) .leaf), 1)) I_clones_prow pre_clones_prow po_clones_prow fun p2 r2 => mP (r2.o.length = r2.o.length) (mP (r2.o.length = r2.o.length) (allB fun h2 : Value => iP ((r1.o.length : Int) < (r2.o.length : Int)) (K (.bool false) (Fd3 ({ p.f with s0 := ({ p.f.s0 with l := p2.l } : Rl) } : F3) p.f.fly.length p.f.s0.l.length p.f.s1.l.length p.f.s2.l.length) 15) (mP (0 ≤ (0 : Int) ∧ (0 : Int) ≤ (r2.o.length : Int) ∧ (r2.o.length : Int) ≤ (r1.o.length : Int)) (useC (([.sy (.imm h2 18 Int r2.o encK), .sy (.imm (hsl h1 18 0 r2.o.length) 18 Int ((r1.o.drop 0).take (r2.o.length - 0)) encK), .fn 62 []], .leaf, 0)) I_eqf pre_eqf po_eqf fun p3 r3 => iP (¬ r3.q) (K (.bool false) (Fd3 ({ p.f with s0 := ({ p.f.s0 with l := p2.l } : Rl) } : F3) p.f.fly.length p.f.s0.l.length p.f.s1.l.length p.f.s2.l.length) 15) (iP ((r2.o.length : Int) < p.f.s0.com) (K (.bool false) (Fd3 ({ p.f with s0 := ({ p.f.s0 with l := p2.l } : Rl) } : F3) p.f.fly.length p.f.s0.l.length p.f.s1.l.length p.f.s2.l.length) 15) (iP (p.f.s0.com < p.f.s0.com) (K (.bool false) (Fd3 ({ p.f with s0 := ({ p.f.s0 with l := p2.l } : Rl) } : F3) p.f.fly.length p.f.s0.l.length p.f.s1.l.length p.f.s2.l.length) 15) (useC (([.sy (.prow 0 p.f.s1.l.length)], (.node .leaf (some (.prow 45 18 Int p.f.s1.l encK)) .leaf), 1)) I_clones_prow pre_clones_prow po_clones_prow fun p4 r4 => mP (r4.o.length = r4.o.length) (mP (r4.o.length = r4.o.length) (allB fun h3 : Value => iP ((r1.o.length : Int) < (r4.o.length : Int)) (K (.bool false) (Fd3 ({ p.f with s0 := ({ p.f.s0 with l := p2.l } : Rl), s1 := ({ p.f.s1 with l := p4.l } : Rl) } : F3) p.f.fly.length p.f.s0.l.length p.f.s1.l.length p.f.s2.l.length) 15) (mP (0 ≤ (0 : Int) ∧ (0 : Int) ≤ (r4.o.length : Int) ∧ (r4.o.length : Int) ≤ (r1.o.length : Int)) (useC (([.sy (.imm h3 18 Int r4.o encK), .sy (.imm (hsl h1 18 0 r4.o.length) 18 Int ((r1.o.drop 0).take (r4.o.length - 0)) encK), .fn 62 []], .leaf, 0)) I_eqf pre_eqf po_eqf fun p5 r5 => iP (¬ r5.q) (K (.bool false) (Fd3 ({ p.f with s0 := ({ p.f.s0 with l := p2.l } : Rl), s1 := ({ p.f.s1 with l := p4.l } : Rl) } : F3) p.f.fly.length p.f.s0.l.length p.f.s1.l.length p.f.s2.l.length) 15) (iP ((r4.o.length : Int) < p.f.s1.com) (K (.bool false) (Fd3 ({ p.f with s0 := ({ p.f.s0 with l := p2.l } : Rl), s1 := ({ p.f.s1 with l := p4.l } : Rl) } : F3) p.f.fly.length p.f.s0.l.length p.f.s1.l.length p.f.s2.l.length) 15) (iP (p.f.s0.com < p.f.s1.com) (K (.bool false) (Fd3 ({ p.f with s0 := ({ p.f.s0 with l := p2.l } : Rl), s1 := ({ p.f.s1 with l := p4.l } : Rl) } : F3) p.f.fly.length p.f.s0.l.length p.f.s1.l.length p.f.s2.l.length) 15) (useC (([.sy (.prow 0 p.f.s2.l.length)], (.node .leaf (some (.prow 45 18 Int p.f.s2.l encK)) .leaf), 1)) I_clones_prow pre_clones_prow po_clones_prow fun p6 r6 => mP (r6.o.length = r6.o.length) (mP (r6.o.length = r6.o.length) (allB fun h4 : Value => iP ((r1.o.length : Int) < (r6.o.length : Int)) (K (.bool false) (Fd3 ({ p.f with s0 := ({ p.f.s0 with l := p2.l } : Rl), s1 := ({ p.f.s1 with l := p4.l } : Rl), s2 := ({ p.f.s2 with l := p6.l } : Rl) } : F3) p.f.fly.length p.f.s0.l.length p.f.s1.l.length p.f.s2.l.length) 15) (mP (0 ≤ (0 : Int) ∧ (0 : Int) ≤ (r6.o.length : Int) ∧ (r6.o.length : Int) ≤ (r1.o.length : Int)) (useC (([.sy (.imm h4 18 Int r6.o encK), .sy (.imm (hsl h1 18 0 r6.o.length) 18 Int ((r1.o.drop 0).take (r6.o.length - 0)) encK), .fn 62 []], .leaf, 0)) I_eqf pre_eqf po_eqf fun p7 r7 => iP (¬ r7.q) (K (.bool false) (Fd3 ({ p.f with s0 := ({ p.f.s0 with l := p2.l } : Rl), s1 := ({ p.f.s1 with l := p4.l } : Rl), s2 := ({ p.f.s2 with l := p6.l } : Rl) } : F3) p.f.fly.length p.f.s0.l.length p.f.s1.l.length p.f.s2.l.length) 15) (iP ((r6.o.length : Int) < p.f.s2.com) (K (.bool false) (Fd3 ({ p.f with s0 := ({ p.f.s0 with l := p2.l } : Rl), s1 := ({ p.f.s1 with l := p4.l } : Rl), s2 := ({ p.f.s2 with l := p6.l } : Rl) } : F3) p.f.fly.length p.f.s0.l.length p.f.s1.l.length p.f.s2.l.length) 15) (iP (p.f.s0.com < p.f.s2.com) (K (.bool false) (Fd3 ({ p.f with s0 := ({ p.f.s0 with l := p2.l } : Rl), s1 := ({ p.f.s1 with l := p4.l } : Rl), s2 := ({ p.f.s2 with l := p6.l } : Rl) } : F3) p.f.fly.length p.f.s0.l.length p.f.s1.l.length p.f.s2.l.length) 15) (K (.bool true) (Fd3 ({ p.f with s0 := ({ p.f.s0 with l := p2.l } : Rl), s1 := ({ p.f.s1 with l := p4.l } : Rl), s2 := ({ p.f.s2 with l := p6.l } : Rl) } : F3) p.f.fly.length p.f.s0.l.length p.f.s1.l.length p.f.s2.l.length) 15))))))))))))))))))))))))) (by kernel_rfl) ?_
 dsimp only [pre_right3] at hpre
 have hinv : FInv p.f.s0 _ _ _ := hpre
 have g : p.f.s0.l.length ≤ 400 := hinv.short
 obtain ⟨u0, v0, w0, z0⟩ : RightP p.f.s0 p.f.s0 := hinv.right (j := 0) rfl
 obtain ⟨u1, v1, w1, z1⟩ : RightP p.f.s0 p.f.s1 := hinv.right (j := 1) rfl
 obtain ⟨u2, v2, w2, z2⟩ : RightP p.f.s0 p.f.s2 := hinv.right (j := 2) rfl
 refine callPR (⟨p.f.s0.l⟩ : A_clones_prow) rfl (by (try dsimp only [pre_clones_prow]); first | omega | (simp only [List.length_take, List.length_drop]; omega)) fun r1 hi1 => ?_
 dsimp only [po_clones_prow] at hi1
 refine mI (rfl) (mI (rfl) ?_)
 refine allB_mk (fun h1 => ?_)
 refine callPR (⟨p.f.s0.l⟩ : A_clones_prow) rfl (by (try dsimp only [pre_clones_prow]); first | omega | (simp only [List.length_take, List.length_drop]; omega)) fun r2 hi2 => ?_
 dsimp only [po_clones_prow] at hi2
 refine mI (rfl) (mI (rfl) ?_)
 refine allB_mk (fun h2 => ?_)
 refine iI (fun hc3 => ?_) (fun hc3 => ?_)
 first | (exfalso; omega) | (exfalso; exact dead_right (by assumption) (by assumption) (by assumption) (by assumption) (by assumption))
 refine mI (by first | omega | (simp only [List.length_take, List.length_drop]; omega)) ?_
 refine callPR (⟨h2, r2.o, hsl h1 18 0 r2.o.length, (r1.o.drop 0).take (r2.o.length - 0)⟩ : A_eqf) rfl (by (try dsimp only [pre_eqf]); first | omega | (simp only [List.length_take, List.length_drop]; omega)) fun r3 hi4 => ?_
 dsimp only [po_eqf] at hi4
 refine iI (fun hc5 => ?_) (fun hc5 => ?_)
 first | (exfalso; omega) | (exfalso; exact dead_right (by assumption) (by assumption) (by assumption) (by assumption) (by assumption))
 refine iI (fun hc6 => ?_) (fun hc6 => ?_)
 first | (exfalso; omega) | (exfalso; exact dead_right (by assumption) (by assumption) (by assumption) (by assumption) (by assumption))
 refine iI (fun hc7 => ?_) (fun hc7 => ?_)
 first | (exfalso; omega) | (exfalso; exact dead_right (by assumption) (by assumption) (by assumption) (by assumption) (by assumption))
 refine callPR (⟨p.f.s1.l⟩ : A_clones_prow) rfl (by (try dsimp only [pre_clones_prow]); first | omega | (simp only [List.length_take, List.length_drop]; omega)) fun r4 hi8 => ?_
 dsimp only [po_clones_prow] at hi8
 refine mI (rfl) (mI (rfl) ?_)
 refine allB_mk (fun h3 => ?_)
 refine iI (fun hc9 => ?_) (fun hc9 => ?_)
 first | (exfalso; omega) | (exfalso; exact dead_right (by assumption) (by assumption) (by assumption) (by assumption) (by assumption))
 refine mI (by first | omega | (simp only [List.length_take, List.length_drop]; omega)) ?_
 refine callPR (⟨h3, r4.o, hsl h1 18 0 r4.o.length, (r1.o.drop 0).take (r4.o.length - 0)⟩ : A_eqf) rfl (by (try dsimp only [pre_eqf]); first | omega | (simp only [List.length_take, List.length_drop]; omega)) fun r5 hi10 => ?_
 dsimp only [po_eqf] at hi10
 refine iI (fun hc11 => ?_) (fun hc11 => ?_)
 first | (exfalso; omega) | (exfalso; exact dead_right (by assumption) (by assumption) (by assumption) (by assumption) (by assumption))
 refine iI (fun hc12 => ?_) (fun hc12 => ?_)
 first | (exfalso; omega) | (exfalso; exact dead_right (by assumption) (by assumption) (by assumption) (by assumption) (by assumption))
 refine iI (fun hc13 => ?_) (fun hc13 => ?_)
 first | (exfalso; omega) | (exfalso; exact dead_right (by assumption) (by assumption) (by assumption) (by assumption) (by assumption))
 refine callPR (⟨p.f.s2.l⟩ : A_clones_prow) rfl (by (try dsimp only [pre_clones_prow]); first | omega | (simp only [List.length_take, List.length_drop]; omega)) fun r6 hi14 => ?_
 dsimp only [po_clones_prow] at hi14
 refine mI (rfl) (mI (rfl) ?_)
 refine allB_mk (fun h4 => ?_)
 refine iI (fun hc15 => ?_) (fun hc15 => ?_)
 first | (exfalso; omega) | (exfalso; exact dead_right (by assumption) (by assumption) (by assumption) (by assumption) (by assumption))
 refine mI (by first | omega | (simp only [List.length_take, List.length_drop]; omega)) ?_
 refine callPR (⟨h4, r6.o, hsl h1 18 0 r6.o.length, (r1.o.drop 0).take (r6.o.length - 0)⟩ : A_eqf) rfl (by (try dsimp only [pre_eqf]); first | omega | (simp only [List.length_take, List.length_drop]; omega)) fun r7 hi16 => ?_
 dsimp only [po_eqf] at hi16
 refine iI (fun hc17 => ?_) (fun hc17 => ?_)
 first | (exfalso; omega) | (exfalso; exact dead_right (by assumption) (by assumption) (by assumption) (by assumption) (by assumption))
 refine iI (fun hc18 => ?_) (fun hc18 => ?_)
 first | (exfalso; omega) | (exfalso; exact dead_right (by assumption) (by assumption) (by assumption) (by assumption) (by assumption))
 refine iI (fun hc19 => ?_) (fun hc19 => ?_)
 first | (exfalso; omega) | (exfalso; exact dead_right (by assumption) (by assumption) (by assumption) (by assumption) (by assumption))
 exact hK
noncomputable def ec_right3 : SpecE := tstE (elB 1 3) (esOf I_right3 (spP pre_right3 out_right3)) ec_right2
theorem nc_right3 : NatE Try.prog 29 1 ec_right3 := tstE_ok (natE_pl (f := 29) (k := 1) (cfT_ok nat_right2_ok) ft_right3_ok (by rfl) (by rfl) vf_right3) nc_right2
noncomputable def nat_right3 := natC nat_right2 1 ec_right3 29 [(0, 4)]
theorem nat_right3_ok : NatsOk Try.prog nat_right3 := natC_ok nc_right3 nat_right2_ok
def ft_right4 : XF := ft_right1
theorem ft_right4_ok : chkF Try.prog 29 ft_right4 = true := ft_right1_ok
structure A_right4 where
 f : F4
noncomputable def I_right4 (p : A_right4) : IE := ([.ptr 0 0], (Fd4n p.f), 19)
noncomputable def out_right4 (p : A_right4) (K : KE) : Bool := K (.bool true) (Fd4n p.f) 19
def pre_right4 (p : A_right4) : Prop := FI4 p.f
theorem vf_right4 (p : A_right4) (K : KE) (hpre : pre_right4 p) (hK : out_right4 p K = true) : (funE 1 (cfT nat_right3) noLp 600 ft_right4 (I_right4 p).1 (I_right4 p).2.1 (I_right4 p).2.2 K) = true := by
 refine Eq.trans (b := (useC (([.sy (.prow 0 p.f.s0.l.length)], (.node .leaf (some (.prow 45 18 Int p.f.s0.l encK)) .leaf), 1)) I_clones_prow pre_clones_prow po_clones_prow fun p1 r1 => mP (r1.o.length = r1.o.length) (mP (r1.o.length = r1.o.length) (allB fun h1 : Value => useC (([.sy (.prow 0 p.f.s0.l.length)], (.node .leaf (some (.prow 45 18 Int p1.l encK)) .leaf), 1)) I_clones_prow pre_clones_prow po_clones_prow fun p2 r2 => mP (r2.o.length = r2.o.length) (mP (r2.o.length = r2.o.length) (allB fun h2 : Value => iP ((r1.o.length : Int) < (r2.o.length : Int)) (K (.bool false) (Fd4 ({ p.f with s0 := ({ p.f.s0 with l := p2.l } : Rl) } : F4) p.f.fly.length p.f.s0.l.length p.f.s1.l.length p.f.s2.l.length p.f.s3.l.length) 19) (mP (0 ≤ (0 : Int) ∧ (0 : Int) ≤ (r2.o.length : Int) ∧ (r2.o.length : Int) ≤ (r1.o.length : Int)) (useC (([.sy (.imm h2 18 Int r2.o encK), .sy (.imm (hsl h1 18 0 r2.o.length) 18 Int ((r1.o.drop 0).take (r2.o.length - 0)) encK), .fn 62 []], .leaf, 0)) I_eqf pre_eqf po_eqf fun p3 r3 => iP (¬ r3.q) (K (.bool false) (Fd4 ({ p.f with s0 := ({ p.f.s0 with l := p2.l } : Rl) } : F4) p.f.fly.length p.f.s0.l.length p.f.s1.l.length p.f.s2.l.length p.f.s3.l.length) 19) (iP ((r2.o.length : Int) < p.f.s0.com) (K (.bool false) (Fd4 ({ p.f with s0 := ({ p.f.s0 with l := p2.l } : Rl) } : F4) p.f.fly.length p.f.s0.l.length p.f.s1.l.length p.f.s2.l.length p.f.s3.l.length) 19) (iP (p.f.s0.com < p.f.s0.com) (K (.bool false) (Fd4 ({ p.f with s0 := ({ p.f.s0 with l := p2.l } : Rl) } : F4) p.f.fly.length p.f.s0.l.length p.f.s1.l.length p.f.s2.l.length p.f.s3.l.length) 19) (useC (([.sy (.prow 0 p.f.s1.l.length)], (.node .leaf (some (.prow 45 18 Int p.f.s1.l encK)) .leaf), 1)) I_clones_prow pre_clones_prow po_clones_prow fun p4 r4 => mP (r4.o.length = r4.o.length) (mP (r4.o.length = r4.o.length) (allB fun h3 : Value => iP ((r1.o.length : Int) < (r4.o.length : Int)) (K (.bool false) (Fd4 ({ p.f with s0 := ({ p.f.s0 with l := p2.l } : Rl), s1 := ({ p.f.s1 with l := p4.l } : Rl) } : F4) p.f.fly.length p.f.s0.l.length p.f.s1.l.length p.f.s2.l.length p.f.s3.l.length) 19) (mP (0 ≤ (0 : Int) ∧ (0 : Int) ≤ (r4.o.length : Int) ∧ (r4.o.length : Int) ≤ (r1.o.length : Int)) (useC (([.sy (.imm h3 18 Int r4.o encK), .sy (.imm (hsl h1 18 0 r4.o.length) 18 Int ((r1.o.drop 0).take (r4.o.length - 0)) encK), .fn 62 []], .leaf, 0)) I_eqf pre_eqf po_eqf fun p5 r5 => iP (¬ r5.q) (K (.bool false) (Fd4 ({ p.f with s0 := ({ p.f.s0 with l := p2.l } : Rl), s1 := ({ p.f.s1 with l := p4.l } : Rl) } : F4) p.f.fly.length p.f.s0.l.length p.f.s1.l.length p.f.s2.l.length p.f.s3.l.length) 19) (iP ((r4.o.length : Int) < p.f.s1.com) (K (.bool false) (Fd4 ({ p.f with s0 := ({ p.f.s0 with l := p2.l } : Rl), s1 := ({ p.f.s1 with l := p4.l } : Rl) } : F4) p.f.fly.length p.f.s0.l.length p.f.s1.l.length p.f.s2.l.length p.f.s3.l.length) 19) (iP (p.f.s0.com < p.f.s1.com) (K (.bool false) (Fd4 ({ p.f with s0 := ({ p.f.s0 with l := p2.l } : Rl), s1 := ({ p.f.s1 with l := p4.l } : Rl) } : F4) p.f.fly.length p.f.s0.l.length p.f.s1.l.length p.f.s2.l.length p.f.s3.l.length) 19) (useC (([.sy (.prow 0 p.f.s2.l.length)], (.node .leaf (some (.prow 45 18 Int p.f.s2.l encK)) .leaf), 1)) I_clones_prow pre_clones_prow po_clones_prow fun p6 r6 => mP (r6.o.length = r6.o.length) (mP (r6.o.length = r6.o.length) (allB fun h4 : Value => iP ((r1.o.length : Int) < (r6.o.length : Int)) (K (.bool false) (Fd4 ({ p.f with s0 := ({ p.f.s0 with l := p2.l } : Rl), s1 := ({ p.f.s1 with l := p4.l } : Rl), s2 := ({ p.f.s2 with l := p6.l } : Rl) } : F4) p.f.fly.length p.f.s0.l.length p.f.s1.l.length p.f.s2.l.length p.f.s3.l.length) 19) (mP (0 ≤ (0 : Int) ∧ (0 : Int) ≤ (r6.o.length : Int) ∧ (r6.o.length : Int) ≤ (r1.o.length : Int)) (useC (([.sy (.imm h4 18 Int r6.o encK), .sy (.imm (hsl h1 18 0 r6.o.length) 18 Int ((r1.o.drop 0).take (r6.o.length - 0)) encK), .fn 62 []], .leaf, 0)) I_eqf pre_eqf po_eqf fun p7 r7 => iP (¬ r7.q) (K (.bool false) (Fd4 ({ p.f with s0 := ({ p.f.s0 with l := p2.l } : Rl), s1 := ({ p.f.s1 with l := p4.l } : Rl), s2 := ({ p.f.s2 with l := p6.l } : Rl) } : F4) p.f.fly.length p.f.s0.l.length p.f.s1.l.length p.f.s2.l.length p.f.s3.l.length) 19) (iP ((r6.o.length : Int) < p.f.s2.com) (K (.bool false) (Fd4 ({ p.f with s0 := ({ p.f.s0 with l := p2.l } : Rl), s1 := ({ p.f.s1 with l := p4.l } : Rl), s2 := ({ p.f.s2 with l := p6.l } : Rl) } : F4) p.f.fly.length p.f.s0.l.length p.f.s1.l.length p.f.s2.l.length p.f.s3.l.length) 19) (iP (p.f.s0.com < p.f.s2.com) (K (.bool false) (Fd4 ({ p.f with s0 := ({ p.f.s0 with l := p2.l } : Rl), s1 := ({ p.f.s1 with l := p4.l } : Rl), s2 := ({ p.f.s2 with l := p6.l } : Rl) } : F4) p.f.fly.length p.f.s0.l.length p.f.s1.l.length p.f.s2.l.length p.f.s3.l.length) 19) (useC (([.sy (.prow 0 p.f.s3.l.length)], (.node .leaf (some (.prow 45 18 Int p.f.s3.l encK)) .leaf), 1)) I_clones_prow pre_clones_prow po_clones_prow fun p8 r8 => mP (r8.o.length = r8.o.length) (mP (r8.o.length = r8.o.length) (allB fun h5 : Value => iP ((r1.o.length : Int) < (r8.o.length : Int)) (K (.bool false) (Fd4 ({ p.f with s0 := ({ p.f.s0 with l := p2.l } : Rl), s1 := ({ p.f.s1 with l := p4.l } : Rl), s2 := ({ p.f.s2 with l := p6.l } : Rl), s3 := ({ p.f.s3 with l := p8.l } : Rl) } : F4) p.f.fly.length p.f.s0.l.length p.f.s1.l.length p.f.s2.l.length p.f.s3.l.length) 19) (mP (0 ≤ (0 : Int) ∧ (0 : Int) ≤ (r8.o.length : Int) ∧ (r8.o.length : Int) ≤ (r1.o.length : Int)) (useC (([.sy (.imm h5 18 Int r8.o encK), .sy (.imm (hsl h1 18 0 r8.o.length) 18 Int ((r1.o.drop 0).take (r8.o.length - 0)) encK), .fn 62 []], .leaf, 0)) I_eqf pre_eqf po_eqf fun p9 r9 => iP (¬ r9.q) (K (.bool false) (Fd4 ({ p.f with s0 := ({ p.f.s0 with l := p2.l } : Rl), s1 := ({ p.f.s1 with l := p4.l } : Rl), s2 := ({ p.f.s2 with l := p6.l } : Rl), s3 := ({ p.f.s3 with l := p8.l } : Rl) } : F4) p.f.fly.length p.f.s0.l.length p.f.s1.l.length p.f.s2.l.length p.f.s3.l.length) 19) (iP ((r8.o.length : Int) < p.f.s3.com) (K (.bool false) (Fd4 ({ p.f with s0 := ({ p.f.s0 with l := p2.l } : Rl), s1 := ({ p.f.s1 with l := p4.l } : Rl), s2 := ({ p.f.s2 with l := p6.l } : Rl), s3 := ({ p.f.s3 with l := p8.l } : Rl) } : F4) p.f.fly.length p.f.s0.l.length p.f.s1.l.length p.f.s2.l.length p.f.s3.l.length) 19) (iP (p.f.s0.com < p.f.s3.com) (K (.bool false) (Fd4 ({ p.f with s0 := ({ p.f.s0 with l := p2.l } : Rl), s1 := ({ p.f.s1 with l := p4.l } : Rl), s2 := ({ p.f.s2 with l := p6.l } : Rl), s3 := ({ p.f.s3 with l := p8.l } : Rl) } : F4) p.f.fly.length p.f.s0.l.length p.f.s1.l.length p.f.s2.l.length p.f.s3.l.length) 19) (K (.bool true) (Fd4 ({ p.f with s0 := ({ p.f.s0 with l := p2.l } : Rl), s1 := ({ p.f.s1 with l := p4.l } : Rl), s2 := ({ p.f.s2 with l := p6.l } : Rl), s3 := ({ p.f.s3 with l := p8.l } : Rl) } : F4) p.f.fly.length p.f.s0.l.length p.f.s1.l.length p.f.s2.l.length p.f.s3.l.length) 19)))))))))))))))))))))))))))))))) (by kernel_rfl) ?_
 dsimp only [pre_right4] at hpre
 have hinv : FInv p.f.s0 _ _ _ := hpre
 have g : p.f.s0.l.length ≤ 400 := hinv.short
 obtain ⟨u0, v0, w0, z0⟩ : RightP p.f.s0 p.f.s0 := hinv.right (j := 0) rfl
 obtain ⟨u1, v1, w1, z1⟩ : RightP p.f.s0 p.f.s1 := hinv.right (j := 1) rfl
 obtain ⟨u2, v2, w2, z2⟩ : RightP p.f.s0 p.f.s2 := hinv.right (j := 2) rfl
 obtain ⟨u3, v3, w3, z3⟩ : RightP p.f.s0 p.f.s3 := hinv.right (j := 3) rfl
 refine callPR (⟨p.f.s0.l⟩ : A_clones_prow) rfl (by (try dsimp only [pre_clones_prow]); first | omega | (simp only [List.length_take, List.length_drop]; omega)) fun r1 hi1 => ?_
 dsimp only [po_clones_prow] at hi1
 refine mI (rfl) (mI (rfl) ?_)
 refine allB_mk (fun h1 => ?_)
 refine callPR (⟨p.f.s0.l⟩ : A_clones_prow) rfl (by (try dsimp only [pre_clones_prow]); first | omega | (simp only [List.length_take, List.length_drop]; omega)) fun r2 hi2 => ?_
 dsimp only [po_clones_prow] at hi2
 refine mI (rfl) (mI (rfl) ?_)
 refine allB_mk (fun h2 => ?_)
 refine iI (fun hc3 => ?_) (fun hc3 => ?_)
 first | (exfalso; omega) | (exfalso; exact dead_right (by assumption) (by assumption) (by assumption) (by assumption) (by assumption))
 refine mI (by first | omega | (simp only [List.length_take, List.length_drop]; omega)) ?_
 refine callPR (⟨h2, r2.o, hsl h1 18 0 r2.o.length, (r1.o.drop 0).take (r2.o.length - 0)⟩ : A_eqf) rfl (by (try dsimp only [pre_eqf]); first | omega | (simp only [List.length_take, List.length_drop]; omega)) fun r3 hi4 => ?_
 dsimp only [po_eqf] at hi4
 refine iI (fun hc5 => ?_) (fun hc5 => ?_)
 first | (exfalso; omega) | (exfalso; exact dead_right (by assumption) (by assumption) (by assumption) (by assumption) (by assumption))
 refine iI (fun hc6 => ?_) (fun hc6 => ?_)
 first | (exfalso; omega) | (exfalso; exact dead_right (by assumption) (by assumption) (by assumption) (by assumption) (by assumption))
 refine iI (fun hc7 => ?_) (fun hc7 => ?_)
 first | (exfalso; omega) | (exfalso; exact dead_right (by assumption) (by assumption) (by assumption) (by assumption) (by assumption))
 refine callPR (⟨p.f.s1.l⟩ : A_clones_prow) rfl (by (try dsimp only [pre_clones_prow]); first | omega | (simp only [List.length_take, List.length_drop]; omega)) fun r4 hi8 => ?_
 dsimp only [po_clones_prow] at hi8
 refine mI (rfl) (mI (rfl) ?_)
 refine allB_mk (fun h3 => ?_)
 refine iI (fun hc9 => ?_) (fun hc9 => ?_)
 first | (exfalso; omega) | (exfalso; exact dead_right (by assumption) (by assumption) (by assumption) (by assumption) (by assumption))
 refine mI (by first | omega | (simp only [List.length_take, List.length_drop]; omega)) ?_
 refine callPR (⟨h3, r4.o, hsl h1 18 0 r4.o.length, (r1.o.drop 0).take (r4.o.length - 0)⟩ : A_eqf) rfl (by (try dsimp only [pre_eqf]); first | omega | (simp only [List.length_take, List.length_drop]; omega)) fun r5 hi10 => ?_
 dsimp only [po_eqf] at hi10
 refine iI (fun hc11 => ?_) (fun hc11 => ?_)
 first | (exfalso; omega) | (exfalso; exact dead_right (by assumption) (by assumption) (by assumption) (by assumption) (by assumption))
 refine iI (fun hc12 => ?_) (fun hc12 => ?_)
 first | (exfalso; omega) | (exfalso; exact dead_right (by assumption) (by assumption) (by assumption) (by assumption) (by assumption))
 refine iI (fun hc13 => ?_) (fun hc13 => ?_)
 first | (exfalso; omega) | (exfalso; exact dead_right (by assumption) (by assumption) (by assumption) (by assumption) (by assumption))
 refine callPR (⟨p.f.s2.l⟩ : A_clones_prow) rfl (by (try dsimp only [pre_clones_prow]); first | omega | (simp only [List.length_take, List.length_drop]; omega)) fun r6 hi14 => ?_
 dsimp only [po_clones_prow] at hi14
 refine mI (rfl) (mI (rfl) ?_)
 refine allB_mk (fun h4 => ?_)
 refine iI (fun hc15 => ?_) (fun hc15 => ?_)
 first | (exfalso; omega) | (exfalso; exact dead_right (by assumption) (by assumption) (by assumption) (by assumption) (by assumption))
 refine mI (by first | omega | (simp only [List.length_take, List.length_drop]; omega)) ?_
 refine callPR (⟨h4, r6.o, hsl h1 18 0 r6.o.length, (r1.o.drop 0).take (r6.o.length - 0)⟩ : A_eqf) rfl (by (try dsimp only [pre_eqf]); first | omega | (simp only [List.length_take, List.length_drop]; omega)) fun r7 hi16 => ?_
 dsimp only [po_eqf] at hi16
 refine iI (fun hc17 => ?_) (fun hc17 => ?_)
 first | (exfalso; omega) | (exfalso; exact dead_right (by assumption) (by assumption) (by assumption) (by assumption) (by assumption))
 refine iI (fun hc18 => ?_) (fun hc18 => ?_)
 first | (exfalso; omega) | (exfalso; exact dead_right (by assumption) (by assumption) (by assumption) (by assumption) (by assumption))
 refine iI (fun hc19 => ?_) (fun hc19 => ?_)
 first | (exfalso; omega) | (exfalso; exact dead_right (by assumption) (by assumption) (by assumption) (by assumption) (by assumption))
 refine callPR (⟨p.f.s3.l⟩ : A_clones_prow) rfl (by (try dsimp only [pre_clones_prow]); first | omega | (simp only [List.length_take, List.length_drop]; omega)) fun r8 hi20 => ?_
 dsimp only [po_clones_prow] at hi20
 refine mI (rfl) (mI (rfl) ?_)
 refine allB_mk (fun h5 => ?_)
 refine iI (fun hc21 => ?_) (fun hc21 => ?_)
 first | (exfalso; omega) | (exfalso; exact dead_right (by assumption) (by assumption) (by assumption) (by assumption) (by assumption))
 refine mI (by first | omega | (simp only [List.length_take, List.length_drop]; omega)) ?_
 refine callPR (⟨h5, r8.o, hsl h1 18 0 r8.o.length, (r1.o.drop 0).take (r8.o.length - 0)⟩ : A_eqf) rfl (by (try dsimp only [pre_eqf]); first | omega | (simp only [List.length_take, List.length_drop]; omega)) fun r9 hi22 => ?_
 dsimp only [po_eqf] at hi22
 refine iI (fun hc23 => ?_) (fun hc23 => ?_)
 first | (exfalso; omega) | (exfalso; exact dead_right (by assumption) (by assumption) (by assumption) (by assumption) (by assumption))
 refine iI (fun hc24 => ?_) (fun hc24 => ?_)
 first | (exfalso; omega) | (exfalso; exact dead_right (by assumption) (by assumption) (by assumption) (by assumption) (by assumption))
 refine iI (fun hc25 => ?_) (fun hc25 => ?_)
 first | (exfalso; omega) | (exfalso; exact dead_right (by assumption) (by assumption) (by assumption) (by assumption) (by assumption))
 exact hK
noncomputable def ec_right4 : SpecE := tstE (elB 1 4) (esOf I_right4 (spP pre_right4 out_right4)) ec_right3
theorem nc_right4 : NatE Try.prog 29 1 ec_right4 := tstE_ok (natE_pl (f := 29) (k := 1) (cfT_ok nat_right3_ok) ft_right4_ok (by rfl) (by rfl) vf_right4) nc_right3
noncomputable def nat_right4 := natC nat_right3 1 ec_right4 29 [(0, 4)]
theorem nat_right4_ok : NatsOk Try.prog nat_right4 := natC_ok nc_right4 nat_right3_ok
def ft_right5 : XF := .mk 75 (.one 2) (.seq (g_ 1 [p_ 0 2 (.mv (.c (.bool false)))]) (.seq (.aft (g_ 8 [p_ 0 6 (m_ 0), p_ 1 7 (n_ 6), p_ 2 8 (f_ 0 7), r_ 3 9 (l_ 8), p_ 4 10 (.ixs 1 (.t 9) (i_ 0)), r_ 5 11 (l_ 10), c_ 6 12 23 [.t 11], p_ 7 3 (m_ 12)]) [(0, [.frz 3])]) (.seq (.seq (g_ 1 [p_ 0 4 (.mv (i_ 0))]) (.block 2 (.loop [0, 2, 3, 4, 5, 13, 14, 15, 16, 17, 18, 19, 20, 21, 22, 23, 24, 25, 26, 27, 28, 29, 30, 31, 32, 33, 34, 35, 36, 37, 38, 39, 40, 41, 42, 43, 44, 45, 46, 47, 48, 49, 50, 51, 52, 53, 54, 55, 56, 57, 58, 59, 60, 61, 62, 63, 64, 65, 66, 67, 68, 69, 70, 71, 72, 73, 74] (.seq (.seq (g_ 7 [p_ 0 13 (m_ 4), p_ 1 14 (m_ 0), p_ 2 15 (n_ 14), p_ 3 16 (f_ 0 15), r_ 4 17 (l_ 16), p_ 5 18 (k_ 17), p_ 6 19 (.bin 3 0 (.t 13) (.t 18))]) (.cond (.t 19) .skip (.exit 2))) (.seq (.block 3 (.seq (.aft (g_ 9 [p_ 0 22 (m_ 0), p_ 1 23 (n_ 22), p_ 2 24 (f_ 0 23), r_ 3 25 (l_ 24), p_ 4 26 (m_ 4), p_ 5 27 (.ixs 1 (.t 25) (.t 26)), r_ 6 28 (l_ 27), c_ 7 29 23 [.t 28], p_ 8 5 (m_ 29)]) [(0, [.frz 5])]) (.seq (h_ 45 [p_ 0 30 (m_ 5), p_ 1 31 (k_ 30), p_ 2 32 (m_ 3), p_ 3 33 (k_ 32), p_ 4 34 (.bin 3 2 (.t 31) (.t 33)), p_ 5 35 (m_ 34), pg_ 6 36 35 false (m_ 5), pg_ 7 37 35 false (m_ 3), pg_ 8 38 35 false (m_ 5), pg_ 9 39 35 false (k_ 38), rg_ 10 40 35 false (.sls 18 (.t 37) none (some (.t 39)) none), cg_ 11 41 35 false 42 [.t 36, .t 40], pg_ 12 42 35 false (.un 0 (.t 41)), p_ 13 43 (.pick (.t 35) (.c (.bool true)) (.t 42)), p_ 14 44 (m_ 43), pg_ 15 45 44 false (m_ 0), pg_ 16 46 44 false (n_ 45), pg_ 17 47 44 false (f_ 0 46), rg_ 18 48 44 false (l_ 47), pg_ 19 49 44 false (m_ 4), pg_ 20 50 44 false (.ixs 1 (.t 48) (.t 49)), rg_ 21 51 44 false (l_ 50), pg_ 23 53 44 false (m_ 5), pg_ 24 54 44 false (k_ 53), cg_ 22 52 44 false 14 [.t 51], pg_ 25 55 44 false (.bin 3 2 (.t 52) (.t 54)), p_ 26 56 (.pick (.t 44) (.c (.bool true)) (.t 55)), p_ 27 57 (m_ 56), pg_ 28 58 57 false (m_ 0), pg_ 29 59 57 false (n_ 58), pg_ 30 60 57 false (f_ 0 59), rg_ 31 61 57 false (l_ 60), pg_ 32 62 57 false (m_ 4), pg_ 33 63 57 false (.ixs 1 (.t 61) (.t 62)), rg_ 34 64 57 false (l_ 63), pg_ 36 66 57 false (m_ 0), pg_ 37 67 57 false (n_ 66), pg_ 38 68 57 false (f_ 0 67), rg_ 39 69 57 false (l_ 68), pg_ 40 70 57 false (.ixs 1 (.t 69) (i_ 0)), rg_ 41 71 57 false (l_ 70), cg_ 35 65 57 false 14 [.t 64], ag_ 39 69 57 false (l_ 68), ag_ 41 71 57 false (l_ 70), cg_ 42 72 57 false 14 [.t 71], pg_ 43 73 57 false (.bin 3 2 (.t 65) (.t 72)), p_ 44 74 (.pick (.t 57) (.c (.bool true)) (.t 73))]) (.cond (.t 74) (.seq (g_ 1 [p_ 0 2 (.mv (.c (.bool false)))]) .ret) .skip)))) (g_ 3 [p_ 0 20 (m_ 4), p_ 1 21 (.bin 0 0 (.t 20) (i_ 1)), p_ 2 4 (m_ 21)])))))) (.seq (g_ 1 [p_ 0 2 (.mv (.c (.bool true)))]) .ret))))
theorem ft_right5_ok : chkF Try.prog 29 ft_right5 = true := by kernel_rfl
structure A_right5 where
 f : F5
noncomputable def I_right5 (p : A_right5) : IE := ([.ptr 0 0], (Fd5n p.f), 23)
noncomputable def out_right5 (p : A_right5) (K : KE) : Bool := K (.bool true) (Fd5n p.f) 23
def pre_right5 (p : A_right5) : Prop := FI5 p.f
theorem vf_right5 (p : A_right5) (K : KE) (hpre : pre_right5 p) (hK : out_right5 p K = true) : (funE 1 (cfT nat_right4) noLp 600 ft_right5 (I_right5 p).1 (I_right5 p).2.1 (I_right5 p).2.2 K) = true := by
 refine Eq.trans (b := (useC (([.sy (.prow 0 p.f.s0.l.length)], (.node .leaf (some (.prow 45 18 Int p.f.s0.l encK)) .leaf), 1)) I_clones_prow pre_clones_prow po_clones_prow fun p1 r1 => mP (r1.o.length = r1.o.length) (mP (r1.o.length = r1.o.length) (allB fun h1 : Value => useC (([.sy (.prow 0 p.f.s0.l.length)], (.node .leaf (some (.prow 45 18 Int p1.l encK)) .leaf), 1)) I_clones_prow pre_clones_prow po_clones_prow fun p2 r2 => mP (r2.o.length = r2.o.length) (mP (r2.o.length = r2.o.length) (allB fun h2 : Value => iP ((r1.o.length : Int) < (r2.o.length : Int)) (K (.bool false) (Fd5 ({ p.f with s0 := ({ p.f.s0 with l := p2.l } : Rl) } : F5) p.f.fly.length p.f.s0.l.length p.f.s1.l.length p.f.s2.l.length p.f.s3.l.length p.f.s4.l.length) 23) (mP (0 ≤ (0 : Int) ∧ (0 : Int) ≤ (r2.o.length : Int) ∧ (r2.o.length : Int) ≤ (r1.o.length : Int)) (useC (([.sy (.imm h2 18 Int r2.o encK), .sy (.imm (hsl h1 18 0 r2.o.length) 18 Int ((r1.o.drop 0).take (r2.o.length - 0)) encK), .fn 62 []], .leaf, 0)) I_eqf pre_eqf po_eqf fun p3 r3 => iP (¬ r3.q) (K (.bool false) (Fd5 ({ p.f with s0 := ({ p.f.s0 with l := p2.l } : Rl) } : F5) p.f.fly.length p.f.s0.l.length p.f.s1.l.length p.f.s2.l.length p.f.s3.l.length p.f.s4.l.length) 23) (iP ((r2.o.length : Int) < p.f.s0.com) (K (.bool false) (Fd5 ({ p.f with s0 := ({ p.f.s0 with l := p2.l } : Rl) } : F5) p.f.fly.length p.f.s0.l.length p.f.s1.l.length p.f.s2.l.length p.f.s3.l.length p.f.s4.l.length) 23) (iP (p.f.s0.com < p.f.s0.com) (K (.bool false) (Fd5 ({ p.f with s0 := ({ p.f.s0 with l := p2.l } : Rl) } : F5) p.f.fly.length p.f.s0.l.length p.f.s1.l.length p.f.s2.l.length p.f.s3.l.length p.f.s4.l.length) 23) (useC (([.sy (.prow 0 p.f.s1.l.length)], (.node .leaf (some (.prow 45 18 Int p.f.s1.l encK)) .leaf), 1)) I_clones_prow pre_clones_prow po_clones_prow fun p4 r4 => mP (r4.o.length = r4.o.length) (mP (r4.o.length = r4.o.length) (allB fun h3 : Value => iP ((r1.o.length : Int) < (r4.o.length : Int)) (K (.bool false) (Fd5 ({ p.f with s0 := ({ p.f.s0 with l := p2.l } : Rl), s1 := ({ p.f.s1 with l := p4.l } : Rl) } : F5) p.f.fly.length p.f.s0.l.length p.f.s1.l.length p.f.s2.l.length p.f.s3.l.length p.f.s4.l.length) 23) (mP (0 ≤ (0 : Int) ∧ (0 : Int) ≤ (r4.o.length : Int) ∧ (r4.o.length : Int) ≤ (r1.o.length : Int)) (useC (([.sy (.imm h3 18 Int r4.o encK), .sy (.imm (hsl h1 18 0 r4.o.length) 18 Int ((r1.o.drop 0).take (r4.o.length - 0)) encK), .fn 62 []], .leaf, 0)) I_eqf pre_eqf po_eqf fun p5 r5 => iP (¬ r5.q) (K (.bool false) (Fd5 ({ p.f with s0 := ({ p.f.s0 with l := p2.l } : Rl), s1 := ({ p.f.s1 with l := p4.l } : Rl) } : F5) p.f.fly.length p.f.s0.l.length p.f.s1.l.length p.f.s2.l.length p.f.s3.l.length p.f.s4.l.length) 23) (iP ((r4.o.length : Int) < p.f.s1.com) (K (.bool false) (Fd5 ({ p.f with s0 := ({ p.f.s0 with l := p2.l } : Rl), s1 := ({ p.f.s1 with l := p4.l } : Rl) } : F5) p.f.fly.length p.f.s0.l.length p.f.s1.l.length p.f.s2.l.length p.f.s3.l.length p.f.s4.l.length) 23) (iP (p.f.s0.com < p.f.s1.com) (K (.bool false) (Fd5 ({ p.f with s0 := ({ p.f.s0 with l := p2.l } : Rl), s1 := ({ p.f.s1 with l := p4.l } : Rl) } : F5) p.f.fly.length p.f.s0.l.length p.f.s1.l.length p.f.s2.l.length p.f.s3.l.length p.f.s4.l.length) 23) (useC (([.sy (.prow 0 p.f.s2.l.length)], (.node .leaf (some (.prow 45 18 Int p.f.s2.l encK)) .leaf), 1)) I_clones_prow pre_clones_prow po_clones_prow fun p6 r6 => mP (r6.o.length = r6.o.length) (mP (r6.o.length = r6.o.length) (allB fun h4 : Value => iP ((r1.o.length : Int) < (r6.o.length : Int)) (K (.bool false) (Fd5 ({ p.f with s0 := ({ p.f.s0 with l := p2.l } : Rl), s1 := ({ p.f.s1 with l := p4.l } : Rl), s2 := ({ p.f.s2 with l := p6.l } : Rl) } : F5) p.f.fly.length p.f.s0.l.length p.f.s1.l.length p.f.s2.l.length p.f.s3.l.length p.f.s4.l.length) 23) (mP (0 ≤ (0 : Int) ∧ (0 : Int) ≤ (r6.o.length : Int) ∧ (r6.o.length : Int) ≤ (r1.o.length : Int)) (useC (([.sy (.imm h4 18 Int r6.o encK), .sy (.imm (hsl h1 18 0 r6.o.length) 18 Int ((r1.o.drop 0).take (r6.o.length - 0)) encK), .fn 62 []], .leaf, 0)) I_eqf pre_eqf po_eqf fun p7 r7 => iP (¬ r7.q) (K (.bool false) (Fd5 ({ p.f with s0 := ({ p.f.s0 with l := p2.l } : Rl), s1 := ({ p.f.s1 with l := p4.l } : Rl), s2 := ({ p.f.s2 with l := p6.l } : Rl) } : F5) p.f.fly.length p.f.s0.l.length p.f.s1.l.length p.f.s2.l.length p.f.s3.l.length p.f.s4.l.length) 23) (iP ((r6.o.length : Int) < p.f.s2.com) (K (.bool false) (Fd5 ({ p.f with s0 := ({ p.f.s0 with l := p2.l } : Rl), s1 := ({ p.f.s1 with l := p4.l } : Rl), s2 := ({ p.f.s2 with l := p6.l } : Rl) } : F5) p.f.fly.length p.f.s0.l.length p.f.s1.l.length p.f.s2.l.length p.f.s3.l.length p.f.s4.l.length) 23) (iP (p.f.s0.com < p.f.s2.com) (K (.bool false) (Fd5 ({ p.f with s0 := ({ p.f.s0 with l := p2.l } : Rl), s1 := ({ p.f.s1 with l := p4.l } : Rl), s2 := ({ p.f.s2 with l := p6.l } : Rl) } : F5) p.f.fly.length p.f.s0.l.length p.f.s1.l.length p.f.s2.l.length p.f.s3.l.length p.f.s4.l.length) 23) (useC (([.sy (.prow 0 p.f.s3.l.length)], (.node .leaf (some (.prow 45 18 Int p.f.s3.l encK)) .leaf), 1)) I_clones_prow pre_clones_prow po_clones_prow fun p8 r8 => mP (r8.o.length = r8.o.length) (mP (r8.o.length = r8.o.length) (allB fun h5 : Value => iP ((r1.o.length : Int) < (r8.o.length : Int)) (K (.bool false) (Fd5 ({ p.f with s0 := ({ p.f.s0 with l := p2.l } : Rl), s1 := ({ p.f.s1 with l := p4.l } : Rl), s2 := ({ p.f.s2 with l := p6.l } : Rl), s3 := ({ p.f.s3 with l := p8.l } : Rl) } : F5) p.f.fly.length p.f.s0.l.length p.f.s1.l.length p.f.s2.l.length p.f.s3.l.length p.f.s4.l.length) 23) (mP (0 ≤ (0 : Int) ∧ (0 : Int) ≤ (r8.o.length : Int) ∧ (r8.o.length : Int) ≤ (r1.o.length : Int)) (useC (([.sy (.imm h5 18 Int r8.o encK), .sy (.imm (hsl h1 18 0 r8.o.length) 18 Int ((r1.o.drop 0).take (r8.o.length - 0)) encK), .fn 62 []], .leaf, 0)) I_eqf pre_eqf po_eqf fun p9 r9 => iP (¬ r9.q) (K (.bool false) (Fd5 ({ p.f with s0 := ({ p.f.s0 with l := p2.l } : Rl), s1 := ({ p.f.s1 with l := p4.l } : Rl), s2 := ({ p.f.s2 with l := p6.l } : Rl), s3 := ({ p.f.s3 with l := p8.l } : Rl) } : F5) p.f.fly.length p.f.s0.l.length p.f.s1.l.length p.f.s2.l.length p.f.s3.l.length p.f.s4.l.length) 23) (iP ((r8.o.length : Int) < p.f.s3.com) (K (.bool false) (Fd5 ({ p.f with s0 := ({ p.f.s0 with l := p2.l } : Rl), s1 := ({ p.f.s1 with l := p4.l } : Rl), s2 := ({ p.f.s2 with l := p6.l } : Rl), s3 := ({ p.f.s3 with l := p8.l } : Rl) } : F5) p.f.fly.length p.f.s0.l.length p.f.s1.l.length p.f.s2.l.length p.f.s3.l.length p.f.s4.l.length) 23) (iP (p.f.s0.com < p.f.s3.com) (K (.bool false) (Fd5 ({ p.f with s0 := ({ p.f.s0 with l := p2.l } : Rl), s1 := ({ p.f.s1 with l := p4.l } : Rl), s2 := ({ p.f.s2 with l := p6.l } : Rl), s3 := ({ p.f.s3 with l := p8.l } : Rl) } : F5) p.f.fly.length p.f.s0.l.length p.f.s1.l.length p.f.s2.l.length p.f.s3.l.length p.f.s4.l.length) 23) (useC (([.sy (.prow 0 p.f.s4.l.length)], (.node .leaf (some (.prow 45 18 Int p.f.s4.l encK)) .leaf), 1)) I_clones_prow pre_clones_prow po_clones_prow fun p10 r10 => mP (r10.o.length = r10.o.length) (mP (r10.o.length = r10.o.length) (allB fun h6 : Value => iP ((r1.o.length : Int) < (r10.o.length : Int)) (K (.bool false) (Fd5 ({ p.f with s0 := ({ p.f.s0 with l := p2.l } : Rl), s1 := ({ p.f.s1 with l := p4.l } : Rl), s2 := ({ p.f.s2 with l := p6.l } : Rl), s3 := ({ p.f.s3 with l := p8.l } : Rl), s4 := ({ p.f.s4 with l := p10.l } : Rl) } : F5) p.f.fly.length p.f.s0.l.length p.f.s1.l.length p.f.s2.l.length p.f.s3.l.length p.f.s4.l.length) 23) (mP (0 ≤ (0 : Int) ∧ (0 : Int) ≤ (r10.o.length : Int) ∧ (r10.o.length : Int) ≤ (r1.o.length : Int)) (useC (([.sy (.imm h6 18 Int r10.o encK), .sy (.imm (hsl h1 18 0 r10.o.length) 18 Int ((r1.o.drop 0).take (r10.o.length - 0)) encK), .fn 62 []], .leaf, 0)) I_eqf pre_eqf po_eqf fun p11 r11 => iP (¬ r11.q) (K (.bool false) (Fd5 ({ p.f with s0 := ({ p.f.s0 with l := p2.l } : Rl), s1 := ({ p.f.s1 with l := p4.l } : Rl), s2 := ({ p.f.s2 with l := p6.l } : Rl), s3 := ({ p.f.s3 with l := p8.l } : Rl), s4 := ({ p.f.s4 with l := p10.l } : Rl) } : F5) p.f.fly.length p.f.s0.l.length p.f.s1.l.length p.f.s2.l.length p.f.s3.l.length p.f.s4.l.length) 23) (iP ((r10.o.length : Int) < p.f.s4.com) (K (.bool false) (Fd5 ({ p.f with s0 := ({ p.f.s0 with l := p2.l } : Rl), s1 := ({ p.f.s1 with l := p4.l } : Rl), s2 := ({ p.f.s2 with l := p6.l } : Rl), s3 := ({ p.f.s3 with l := p8.l } : Rl), s4 := ({ p.f.s4 with l := p10.l } : Rl) } : F5) p.f.fly.length p.f.s0.l.length p.f.s1.l.length p.f.s2.l.length p.f.s3.l.length p.f.s4.l.length) 23) (iP (p.f.s0.com < p.f.s4.com) (K (.bool false) (Fd5 ({ p.f with s0 := ({ p.f.s0 with l := p2.l } : Rl), s1 := ({ p.f.s1 with l := p4.l } : Rl), s2 := ({ p.f.s2 with l := p6.l } : Rl), s3 := ({ p.f.s3 with l := p8.l } : Rl), s4 := ({ p.f.s4 with l := p10.l } : Rl) } : F5) p.f.fly.length p.f.s0.l.length p.f.s1.l.length p.f.s2.l.length p.f.s3.l.length p.f.s4.l.length) 23) (K (.bool true) (Fd5 ({ p.f with s0 := ({ p.f.s0 with l := p2.l } : Rl), s1 := ({ p.f.s1 with l := p4.l } : Rl), s2 := ({ p.f.s2 with l := p6.l } : Rl), s3 := ({ p.f.s3 with l := p8.l } : Rl), s4 := ({ p.f.s4 with l := p10.l } : Rl) } : F5) p.f.fly.length p.f.s0.l.length p.f.s1.l.length p.f.s2.l.length p.f.s3.l.length p.f.s4.l.length) 23))))))))))))))))))))))))))))))))))))))) (by kernel_rfl) ?_
 dsimp only [pre_right5] at hpre
 have hinv : FInv p.f.s0 _ _ _ := hpre
 have g : p.f.s0.l.length ≤ 400 := hinv.short
 obtain ⟨u0, v0, w0, z0⟩ : RightP p.f.s0 p.f.s0 := hinv.right (j := 0) rfl
 obtain ⟨u1, v1, w1, z1⟩ : RightP p.f.s0 p.f.s1 := hinv.right (j := 1) rfl
 obtain ⟨u2, v2, w2, z2⟩ : RightP p.f.s0 p.f.s2 := hinv.right (j := 2) rfl
 obtain ⟨u3, v3, w3, z3⟩ : RightP p.f.s0 p.f.s3 := hinv.right (j := 3) rfl
 obtain ⟨u4, v4, w4, z4⟩ : RightP p.f.s0 p.f.s4 := hinv.right (j := 4) rfl
 refine callPR (⟨p.f.s0.l⟩ : A_clones_prow) rfl (by (try dsimp only [pre_clones_prow]); first | omega | (simp only [List.length_take, List.length_drop]; omega)) fun r1 hi1 => ?_
 dsimp only [po_clones_prow] at hi1
 refine mI (rfl) (mI (rfl) ?_)
 refine allB_mk (fun h1 => ?_)
 refine callPR (⟨p.f.s0.l⟩ : A_clones_prow) rfl (by (try dsimp only [pre_clones_prow]); first | omega | (simp only [List.length_take, List.length_drop]; omega)) fun r2 hi2 => ?_
 dsimp only [po_clones_prow] at hi2
 refine mI (rfl) (mI (rfl) ?_)
 refine allB_mk (fun h2 => ?_)
 refine iI (fun hc3 => ?_) (fun hc3 => ?_)
 first | (exfalso; omega) | (exfalso; exact dead_right (by assumption) (by assumption) (by assumption) (by assumption) (by assumption))
 refine mI (by first | omega | (simp only [List.length_take, List.length_drop]; omega)) ?_
 refine callPR (⟨h2, r2.o, hsl h1 18 0 r2.o.length, (r1.o.drop 0).take (r2.o.length - 0)⟩ : A_eqf) rfl (by (try dsimp only [pre_eqf]); first | omega | (simp only [List.length_take, List.length_drop]; omega)) fun r3 hi4 => ?_
 dsimp only [po_eqf] at hi4
 refine iI (fun hc5 => ?_) (fun hc5 => ?_)
 first | (exfalso; omega) | (exfalso; exact dead_right (by assumption) (by assumption) (by assumption) (by assumption) (by assumption))
 refine iI (fun hc6 => ?_) (fun hc6 => ?_)
 first | (exfalso; omega) | (exfalso; exact dead_right (by assumption) (by assumption) (by assumption) (by assumption) (by assumption))
 refine iI (fun hc7 => ?_) (fun hc7 => ?_)
 first | (exfalso; omega) | (exfalso; exact dead_right (by assumption) (by assumption) (by assumption) (by assumption) (by assumption))
 refine callPR (⟨p.f.s1.l⟩ : A_clones_prow) rfl (by (try dsimp only [pre_clones_prow]); first | omega | (simp only [List.length_take, List.length_drop]; omega)) fun r4 hi8 => ?_
 dsimp only [po_clones_prow] at hi8
 refine mI (rfl) (mI (rfl) ?_)
 refine allB_mk (fun h3 => ?_)
 refine iI (fun hc9 => ?_) (fun hc9 => ?_)
 first | (exfalso; omega) | (exfalso; exact dead_right (by assumption) (by assumption) (by assumption) (by assumption) (by assumption))
 refine mI (by first | omega | (simp only [List.length_take, List.length_drop]; omega)) ?_
 refine callPR (⟨h3, r4.o, hsl h1 18 0 r4.o.length, (r1.o.drop 0).take (r4.o.length - 0)⟩ : A_eqf) rfl (by (try dsimp only [pre_eqf]); first | omega | (simp only [List.length_take, List.length_drop]; omega)) fun r5 hi10 => ?_
 dsimp only [po_eqf] at hi10
 refine iI (fun hc11 => ?_) (fun hc11 => ?_)
 first | (exfalso; omega) | (exfalso; exact dead_right (by assumption) (by assumption) (by assumption) (by assumption) (by assumption))
 refine iI (fun hc12 => ?_) (fun hc12 => ?_)
 first | (exfalso; omega) | (exfalso; exact dead_right (by assumption) (by assumption) (by assumption) (by assumption) (by assumption))
 refine iI (fun hc13 => ?_) (fun hc13 => ?_)
 first | (exfalso; omega) | (exfalso; exact dead_right (by assumption) (by assumption) (by assumption) (by assumption) (by assumption))
 refine callPR (⟨p.f.s2.l⟩ : A_clones_prow) rfl (by (try dsimp only [pre_clones_prow]); first | omega | (simp only [List.length_take, List.length_drop]; omega)) fun r6 hi14 => ?_
 dsimp only [po_clones_prow] at hi14
 refine mI (rfl) (mI (rfl) ?_)
 refine allB_mk (fun h4 => ?_)
 refine iI (fun hc15 => ?_) (fun hc15 => ?_)
 first | (exfalso; omega) | (exfalso; exact dead_right (by assumption) (by assumption) (by assumption) (by assumption) (by assumption))
 refine mI (by first | omega | (simp only [List.length_take, List.length_drop]; omega)) ?_
 refine callPR (⟨h4, r6.o, hsl h1 18 0 r6.o.length, (r1.o.drop 0).take (r6.o.length - 0)⟩ : A_eqf) rfl (by (try dsimp only [pre_eqf]); first | omega | (simp only [List.length_take, List.length_drop]; omega)) fun r7 hi16 => ?_
 dsimp only [po_eqf] at hi16
 refine iI (fun hc17 => ?_) (fun hc17 => ?_)
 first | (exfalso; omega) | (exfalso; exact dead_right (by assumption) (by assumption) (by assumption) (by assumption) (by assumption))
 refine iI (fun hc18 => ?_) (fun hc18 => ?_)
 first | (exfalso; omega) | (exfalso; exact dead_right (by assumption) (by assumption) (by assumption) (by assumption) (by assumption))
 refine iI (fun hc19 => ?_) (fun hc19 => ?_)
 first | (exfalso; omega) | (exfalso; exact dead_right (by assumption) (by assumption) (by assumption) (by assumption) (by assumption))
 refine callPR (⟨p.f.s3.l⟩ : A_clones_prow) rfl (by (try dsimp only [pre_clones_prow]); first | omega | (simp only [List.length_take, List.length_drop]; omega)) fun r8 hi20 => ?_
 dsimp only [po_clones_prow] at hi20
 refine mI (rfl) (mI (rfl) ?_)
 refine allB_mk (fun h5 => ?_)
 refine iI (fun hc21 => ?_) (fun hc21 => ?_)
 first | (exfalso; omega) | (exfalso; exact dead_right (by assumption) (by assumption) (by assumption) (by assumption) (by assumption))
 refine mI (by first | omega | (simp only [List.length_take, List.length_drop]; omega)) ?_
 refine callPR (⟨h5, r8.o, hsl h1 18 0 r8.o.length, (r1.o.drop 0).take (r8.o.length - 0)⟩ : A_eqf) rfl (by (try dsimp only [pre_eqf]); first | omega | (simp only [List.length_take, List.length_drop]; omega)) fun r9 hi22 => ?_
 dsimp only [po_eqf] at hi22
 refine iI (fun hc23 => ?_) (fun hc23 => ?_)
 first | (exfalso; omega) | (exfalso; exact dead_right (by assumption) (by assumption) (by assumption) (by assumption) (by assumption))
 refine iI (fun hc24 => ?_) (fun hc24 => ?_)
 first | (exfalso; omega) | (exfalso; exact dead_right (by assumption) (by assumption) (by assumption) (by assumption) (by assumption))
 refine iI (fun hc25 => ?_) (fun hc25 => ?_)
 first | (exfalso; omega) | (exfalso; exact dead_right (by assumption) (by assumption) (by assumption) (by assumption) (by assumption))
 refine callPR (⟨p.f.s4.l⟩ : A_clones_prow) rfl (by (try dsimp only [pre_clones_prow]); first | omega | (simp only [List.length_take, List.length_drop]; omega)) fun r10 hi26 => ?_
 dsimp only [po_clones_prow] at hi26
 refine mI (rfl) (mI (rfl) ?_)
 refine allB_mk (fun h6 => ?_)
 refine iI (fun hc27 => ?_) (fun hc27 => ?_)
 first | (exfalso; omega) | (exfalso; exact dead_right (by assumption) (by assumption) (by assumption) (by assumption) (by assumption))
 refine mI (by first | omega | (simp only [List.length_take, List.length_drop]; omega)) ?_
 refine callPR (⟨h6, r10.o, hsl h1 18 0 r10.o.length, (r1.o.drop 0).take (r10.o.length - 0)⟩ : A_eqf) rfl (by (try dsimp only [pre_eqf]); first | omega | (simp only [List.length_take, List.length_drop]; omega)) fun r11 hi28 => ?_
 dsimp only [po_eqf] at hi28
 refine iI (fun hc29 => ?_) (fun hc29 => ?_)
 first | (exfalso; omega) | (exfalso; exact dead_right (by assumption) (by assumption) (by assumption) (by assumption) (by assumption))
 refine iI (fun hc30 => ?_) (fun hc30 => ?_)
 first | (exfalso; omega) | (exfalso; exact dead_right (by assumption) (by assumption) (by assumption) (by assumption) (by assumption))
 refine iI (fun hc31 => ?_) (fun hc31 => ?_)
 first | (exfalso; omega) | (exfalso; exact dead_right (by assumption) (by assumption) (by assumption) (by assumption) (by assumption))
 exact hK
noncomputable def ec_right5 : SpecE := tstE (elB 1 5) (esOf I_right5 (spP pre_right5 out_right5)) ec_right4
theorem nc_right5 : NatE Try.prog 29 1 ec_right5 := tstE_ok (natE_pl (f := 29) (k := 1) (cfT_ok nat_right4_ok) ft_right5_ok (by rfl) (by rfl) vf_right5) nc_right4
noncomputable def nat_right5 := natC nat_right4 1 ec_right5 29 [(0, 4)]
theorem nat_right5_ok : NatsOk Try.prog nat_right5 := natC_ok nc_right5 nat_right4_ok
theorem tmb (k : Int) (hk : 0 < k) (z : Int) : -k < z.tmod k ∧ z.tmod k < k := ⟨by have := Int.lt_tmod_of_pos z hk; omega, Int.tmod_lt_of_pos z hk⟩
theorem tmp (k : Int) (hk : 0 < k) (z : Int) (h : 0 ≤ z) : 0 ≤ z.tmod k ∧ z.tmod k < k := ⟨Int.tmod_nonneg k h, Int.tmod_lt_of_pos z hk⟩
theorem tmk (k z : Int) : 0 < k → -k < z.tmod k ∧ z.tmod k < k := fun hk => tmb k hk z
theorem tmk2 (k z : Int) : 0 < k → 0 ≤ (z.tmod k + k).tmod k ∧ (z.tmod k + k).tmod k < k := fun hk => tmp k hk _ (by have := tmb k hk z; omega)
theorem MsgOk.flat {hd : Rl} {tl : List Rl} {t : Told} (h : MsgOk hd tl t) (hs : hd.l.length ≤ 400) : 0 ≤ t.to ∧ t.to < ((tl.length + 1 : Nat) : Int) ∧ (t.to = 0 → 0 ≤ t.c ∧ t.c < ((tl.length + 1 : Nat) : Int)) ∧ (¬ t.to = 0 → 0 ≤ t.fr ∧ t.fr + (t.l.length : Int) ≤ 400) := by
 refine ⟨h.lo, h.hi, fun e => ?_, fun e => ?_⟩
 ·obtain ⟨j, r, h1, h2, _⟩ := h.back e
  have := (List.getElem?_eq_some_iff.1 h2).1
  simp only [List.length_cons] at this
  omega
 ·have := h.out e; omega
theorem sub_cut {α : Type} {l : List α} {a b c d : Nat} : ∀ t, t ∈ (l.drop a).take b ++ (l.drop c).take d → t ∈ l := fun t h => (List.mem_append.1 h).elim (fun h => List.mem_of_mem_drop (List.mem_of_mem_take h)) (fun h => List.mem_of_mem_drop (List.mem_of_mem_take h))
theorem sub_one {α : Type} {l : List α} {a b : Nat} : ∀ t, t ∈ (l.drop a).take b → t ∈ l := fun t h => List.mem_of_mem_drop (List.mem_of_mem_take h)
theorem frz_shut {l : List Int} {com : Int} {sh p : Prop} {tl : List Rl} (h : p) : Frz (⟨l, com, sh⟩ :: tl) (⟨l, com, p⟩ :: tl) := by
 refine ⟨rfl, fun j r r' h1 h2 h3 => ?_⟩
 cases j with
 | zero => simp only [List.getElem?_cons_zero, Option.some.injEq] at h1 h2; subst h1; subst h2; exact ⟨h, rfl⟩
 | succ j => simp only [List.getElem?_cons_succ] at h1 h2; rw [h1] at h2; cases h2; exact ⟨h3, rfl⟩
theorem fact1 {f : F1} (h : FI1 f) : f.s0.l.length ≤ 400 ∧ f.fly.length ≤ 100 ∧ (f.c0 ≤ (f.s0.l.length : Int) ∧ 0 ≤ f.c0 ∧ f.s0.l.length ≤ f.s0.l.length) := by
 have h : FInv f.s0 _ _ f.fly := h
 exact ⟨h.short, h.few, ⟨(h.each 0 _ _ rfl rfl).cl, (h.each 0 _ _ rfl rfl).c0, (h.each 0 _ _ rfl rfl).len⟩⟩
theorem fact2 {f : F2} (h : FI2 f) : f.s0.l.length ≤ 400 ∧ f.fly.length ≤ 100 ∧ (f.c0 ≤ (f.s0.l.length : Int) ∧ 0 ≤ f.c0 ∧ f.s0.l.length ≤ f.s0.l.length) ∧ (f.c1 ≤ (f.s1.l.length : Int) ∧ 0 ≤ f.c1 ∧ f.s1.l.length ≤ f.s0.l.length) := by
 have h : FInv f.s0 _ _ f.fly := h
 exact ⟨h.short, h.few, ⟨(h.each 0 _ _ rfl rfl).cl, (h.each 0 _ _ rfl rfl).c0, (h.each 0 _ _ rfl rfl).len⟩, ⟨(h.each 1 _ _ rfl rfl).cl, (h.each 1 _ _ rfl rfl).c0, (h.each 1 _ _ rfl rfl).len⟩⟩
theorem fact3 {f : F3} (h : FI3 f) : f.s0.l.length ≤ 400 ∧ f.fly.length ≤ 100 ∧ (f.c0 ≤ (f.s0.l.length : Int) ∧ 0 ≤ f.c0 ∧ f.s0.l.length ≤ f.s0.l.length) ∧ (f.c1 ≤ (f.s1.l.length : Int) ∧ 0 ≤ f.c1 ∧ f.s1.l.length ≤ f.s0.l.length) ∧ (f.c2 ≤ (f.s2.l.length : Int) ∧ 0 ≤ f.c2 ∧ f.s2.l.length ≤ f.s0.l.length) := by
 have h : FInv f.s0 _ _ f.fly := h
 exact ⟨h.short, h.few, ⟨(h.each 0 _ _ rfl rfl).cl, (h.each 0 _ _ rfl rfl).c0, (h.each 0 _ _ rfl rfl).len⟩, ⟨(h.each 1 _ _ rfl rfl).cl, (h.each 1 _ _ rfl rfl).c0, (h.each 1 _ _ rfl rfl).len⟩, ⟨(h.each 2 _ _ rfl rfl).cl, (h.each 2 _ _ rfl rfl).c0, (h.each 2 _ _ rfl rfl).len⟩⟩
theorem fact4 {f : F4} (h : FI4 f) : f.s0.l.length ≤ 400 ∧ f.fly.length ≤ 100 ∧ (f.c0 ≤ (f.s0.l.length : Int) ∧ 0 ≤ f.c0 ∧ f.s0.l.length ≤ f.s0.l.length) ∧ (f.c1 ≤ (f.s1.l.length : Int) ∧ 0 ≤ f.c1 ∧ f.s1.l.length ≤ f.s0.l.length) ∧ (f.c2 ≤ (f.s2.l.length : Int) ∧ 0 ≤ f.c2 ∧ f.s2.l.length ≤ f.s0.l.length) ∧ (f.c3 ≤ (f.s3.l.length : Int) ∧ 0 ≤ f.c3 ∧ f.s3.l.length ≤ f.s0.l.length) := by
 have h : FInv f.s0 _ _ f.fly := h
 exact ⟨h.short, h.few, ⟨(h.each 0 _ _ rfl rfl).cl, (h.each 0 _ _ rfl rfl).c0, (h.each 0 _ _ rfl rfl).len⟩, ⟨(h.each 1 _ _ rfl rfl).cl, (h.each 1 _ _ rfl rfl).c0, (h.each 1 _ _ rfl rfl).len⟩, ⟨(h.each 2 _ _ rfl rfl).cl, (h.each 2 _ _ rfl rfl).c0, (h.each 2 _ _ rfl rfl).len⟩, ⟨(h.each 3 _ _ rfl rfl).cl, (h.each 3 _ _ rfl rfl).c0, (h.each 3 _ _ rfl rfl).len⟩⟩
theorem fact5 {f : F5} (h : FI5 f) : f.s0.l.length ≤ 400 ∧ f.fly.length ≤ 100 ∧ (f.c0 ≤ (f.s0.l.length : Int) ∧ 0 ≤ f.c0 ∧ f.s0.l.length ≤ f.s0.l.length) ∧ (f.c1 ≤ (f.s1.l.length : Int) ∧ 0 ≤ f.c1 ∧ f.s1.l.length ≤ f.s0.l.length) ∧ (f.c2 ≤ (f.s2.l.length : Int) ∧ 0 ≤ f.c2 ∧ f.s2.l.length ≤ f.s0.l.length) ∧ (f.c3 ≤ (f.s3.l.length : Int) ∧ 0 ≤ f.c3 ∧ f.s3.l.length ≤ f.s0.l.length) ∧ (f.c4 ≤ (f.s4.l.length : Int) ∧ 0 ≤ f.c4 ∧ f.s4.l.length ≤ f.s0.l.length) := by
 have h : FInv f.s0 _ _ f.fly := h
 exact ⟨h.short, h.few, ⟨(h.each 0 _ _ rfl rfl).cl, (h.each 0 _ _ rfl rfl).c0, (h.each 0 _ _ rfl rfl).len⟩, ⟨(h.each 1 _ _ rfl rfl).cl, (h.each 1 _ _ rfl rfl).c0, (h.each 1 _ _ rfl rfl).len⟩, ⟨(h.each 2 _ _ rfl rfl).cl, (h.each 2 _ _ rfl rfl).c0, (h.each 2 _ _ rfl rfl).len⟩, ⟨(h.each 3 _ _ rfl rfl).cl, (h.each 3 _ _ rfl rfl).c0, (h.each 3 _ _ rfl rfl).len⟩, ⟨(h.each 4 _ _ rfl rfl).cl, (h.each 4 _ _ rfl rfl).c0, (h.each 4 _ _ rfl rfl).len⟩⟩
def ft_come1 : XF := .mk 34 .none (.seq (g_ 1 [e_ 0 3 (.box 100 (.t 1))]) (.seq (.seq (g_ 3 [p_ 0 4 (f_ 0 3), r_ 1 5 (l_ 4), p_ 2 6 (.bin 3 4 (.t 5) (i_ 0))]) (.cond (.t 6) (.seq (h_ 12 [p_ 0 7 (m_ 0), p_ 1 8 (n_ 7), p_ 2 9 (f_ 0 8), r_ 3 10 (l_ 9), p_ 4 11 (.ixs 1 (.t 10) (i_ 0)), r_ 5 12 (l_ 11), p_ 6 13 (f_ 2 3), r_ 7 14 (l_ 13), p_ 9 16 (f_ 1 3), r_ 10 17 (l_ 16), c_ 8 15 9 [.t 14], a_ 3 10 (l_ 9), a_ 5 12 (l_ 11), a_ 10 17 (l_ 16), c_ 11 18 19 [.t 12, .t 15, .t 17]]) .ret) .skip)) (h_ 15 [p_ 0 19 (m_ 0), p_ 1 20 (n_ 19), p_ 2 21 (f_ 0 20), r_ 3 22 (l_ 21), p_ 4 23 (f_ 0 3), r_ 5 24 (l_ 23), p_ 6 25 (.ixs 1 (.t 22) (.t 24)), r_ 7 26 (l_ 25), p_ 8 27 (f_ 1 3), r_ 9 28 (l_ 27), p_ 10 29 (f_ 3 3), r_ 11 30 (l_ 29), p_ 12 31 (f_ 2 3), r_ 13 32 (l_ 31), c_ 14 33 13 [.t 26, .t 28, .t 30, .t 32]])))
theorem ft_come1_ok : chkF Try.prog 41 ft_come1 = true := by kernel_rfl
structure A_come1 where
 f : F1
 t : Told
structure R_come1 where
 f : F1
def po_come1 (p : A_come1) (r : R_come1) : Prop := (FI1 r.f ∧ Fr1 p.f r.f) ∧ r.f.cnt = p.f.cnt
noncomputable def I_come1 (p : A_come1) : IE := ([.ptr 0 0, .agg [.sy (.int 0 p.t.to), .sy (.int 0 p.t.fr), .sy (.int 0 p.t.c), .sy (.imm p.t.h 18 Int p.t.l encK)]], (Fd1n p.f), 7)
noncomputable def out_come1 (p : A_come1) (K : KE) : Bool := allB fun r : R_come1 => iP (po_come1 p r) (K (.tup []) (Fd1n r.f) 7) true
def pre_come1 (p : A_come1) : Prop := FI1 p.f ∧ MsgOk p.f.s0 [] p.t
theorem fin_come1 {p : A_come1} {K : KE} (hK : out_come1 p K = true) (r : R_come1) (h : po_come1 p r) : K (.tup []) (Fd1n r.f) 7 = true := ifB_use h (allB_ok hK r)
theorem vf_come1 (p : A_come1) (K : KE) (hpre : pre_come1 p) (hK : out_come1 p K = true) : (funE 1 (cfT nat_right5) noLp 600 ft_come1 (I_come1 p).1 (I_come1 p).2.1 (I_come1 p).2.2 K) = true := by
 refine Eq.trans (b := (iP (p.t.to = (0 : Int)) (mP (InR 1 p.t.c) (mP (((.int 0 p.t.fr) : SY) = (.int 0 p.t.fr)) (useC (([.ptr 0 0, .agg [.sy (.int 1 p.t.c), .int 2 (.ofNat 1)], .sy (.int 0 p.t.fr)], (Ro1n p.f.s0.l p.f.s0.com p.f.s0.sh p.f.c0), 4)) I_ack1 pre_ack1 po_ack1 fun p1 r1 => K (.tup []) (Fd1n ⟨⟨p1.l, r1.com, p1.sh⟩, r1.c0, p.f.fly, p.f.cnt⟩) 7))) (iP (p.t.to = 0) (false) (mP (False) (true))))) (by kernel_rfl) ?_
 dsimp only [pre_come1] at hpre
 obtain ⟨hinv, hm⟩ := hpre
 have hinv : FInv p.f.s0 _ _ p.f.fly := hinv
 obtain ⟨hs, hfew, f0⟩ := fact1 hinv
 have hm2 := hm.flat hs
 simp only [List.length_cons, List.length_nil, List.length_singleton] at hm2
 refine iI (fun hc1 => ?_) (fun hc1 => ?_)
 refine mI (by simp only [InR]; omega) (mI (rfl) ?_)
 refine callPR (⟨p.f.s0.l, p.f.s0.com, p.f.s0.sh, p.f.c0, p.t.c, p.t.fr⟩ : A_ack1) rfl (by (try dsimp only [pre_ack1]); omega) fun r1 hi2 => ?_
 dsimp only [po_ack1] at hi2
 exact fin_come1 hK ⟨⟨⟨p.f.s0.l, r1.com, p.f.s0.sh⟩, r1.c0, p.f.fly, p.f.cnt⟩⟩ (by dsimp only [po_come1] <;> (first | (exfalso; omega) | exact ⟨tr_ack (maj := 1) (m := 1) hinv (by simp) (by simp) hm (by assumption) (by assumption), rfl⟩))
 refine iI (fun hc3 => ?_) (fun hc3 => ?_)
 exfalso; omega
 refine mI (by omega) ?_
 rfl
noncomputable def ec_come1 : SpecE := tstE (elB 1 1) (esOf I_come1 (spP pre_come1 out_come1)) (fun _ _ _ _ => false)
theorem nc_come1 : NatE Try.prog 41 1 ec_come1 := tstE_ok (natE_pl (f := 41) (k := 1) (cfT_ok nat_right5_ok) ft_come1_ok (by rfl) (by rfl) vf_come1) natE_no
noncomputable def nat_come1 := natC nat_right5 1 ec_come1 41 [(0, 4), (1, 15)]
theorem nat_come1_ok : NatsOk Try.prog nat_come1 := natC_ok nc_come1 nat_right5_ok
def ft_step1 : XF := .mk 203 .none (.seq (g_ 1 [e_ 0 3 (.box 74 (.t 1))]) (.seq (h_ 21 [p_ 0 10 (f_ 1 3), r_ 1 11 (l_ 10), p_ 2 12 (m_ 0), p_ 3 13 (n_ 12), p_ 4 14 (f_ 0 13), r_ 5 15 (l_ 14), p_ 6 16 (k_ 15), p_ 7 17 (.bin 0 4 (.t 11) (.t 16)), p_ 8 18 (m_ 0), p_ 9 19 (n_ 18), p_ 10 20 (f_ 0 19), r_ 11 21 (l_ 20), p_ 12 22 (k_ 21), p_ 13 23 (.bin 0 0 (.t 17) (.t 22)), p_ 14 24 (m_ 0), p_ 15 25 (n_ 24), p_ 16 26 (f_ 0 25), r_ 17 27 (l_ 26), p_ 18 28 (k_ 27), p_ 19 29 (.bin 0 4 (.t 23) (.t 28)), p_ 20 4 (m_ 29)]) (.seq (g_ 6 [p_ 0 30 (m_ 0), p_ 1 31 (n_ 30), p_ 2 32 (f_ 1 31), r_ 3 33 (l_ 32), p_ 4 34 (k_ 33), p_ 5 5 (m_ 34)]) (.block 2 (.seq (g_ 4 [p_ 0 36 (f_ 0 3), r_ 1 37 (l_ 36), p_ 2 38 (.bin 3 4 (.t 37) (i_ 0)), p_ 3 35 (m_ 38)]) (.cond (.t 35) (.seq (g_ 8 [p_ 0 39 (m_ 0), p_ 1 40 (n_ 39), p_ 2 41 (f_ 2 40), r_ 3 42 (l_ 41), p_ 4 43 (.bin 0 0 (.t 42) (i_ 1)), p_ 5 44 (n_ 39), p_ 6 45 (f_ 2 44), e0_ 7 (.st 1 (.t 45) (.t 43))]) (h_ 13 [p_ 0 46 (m_ 0), p_ 1 47 (n_ 46), p_ 2 48 (f_ 0 47), r_ 3 49 (l_ 48), p_ 4 50 (.ixs 1 (.t 49) (i_ 0)), r_ 5 51 (l_ 50), p_ 6 52 (m_ 0), p_ 7 53 (n_ 52), p_ 8 54 (f_ 2 53), r_ 9 55 (l_ 54), p_ 10 56 (.bin 0 4 (.t 55) (i_ 16)), c_ 11 57 11 [.t 56], a_ 3 49 (l_ 48), a_ 5 51 (l_ 50), c_ 12 58 10 [.t 51, .t 57]])) (.seq (g_ 12 [p_ 0 60 (f_ 0 3), r_ 1 61 (l_ 60), p_ 2 62 (.bin 3 4 (.t 61) (i_ 1)), p_ 3 63 (m_ 62), pg_ 4 64 63 true (m_ 4), pg_ 5 65 63 true (.bin 3 2 (.t 64) (i_ 0)), p_ 6 66 (.pick (.t 63) (.t 65) (.c (.bool false))), p_ 7 67 (m_ 66), pg_ 8 68 67 true (m_ 5), pg_ 9 69 67 true (.bin 3 0 (.t 68) (i_ 100)), p_ 10 70 (.pick (.t 67) (.t 69) (.c (.bool false))), p_ 11 59 (m_ 70)]) (.cond (.t 59) (.seq (h_ 20 [p_ 0 72 (m_ 0), p_ 1 73 (n_ 72), p_ 2 74 (f_ 0 73), r_ 3 75 (l_ 74), p_ 4 76 (.ixs 1 (.t 75) (i_ 0)), r_ 5 77 (l_ 76), p_ 6 78 (m_ 4), p_ 8 80 (f_ 2 3), r_ 9 81 (l_ 80), p_ 10 82 (.bin 0 4 (.t 81) (i_ 3)), p_ 11 83 (.bin 0 0 (.t 82) (i_ 3)), p_ 12 84 (.bin 0 4 (.t 83) (i_ 3)), p_ 13 85 (.bin 0 0 (i_ 1) (.t 84)), c_ 7 79 9 [.t 78], a_ 3 75 (l_ 74), a_ 5 77 (l_ 76), a_ 9 81 (l_ 80), c_ 14 86 21 [.t 77, .t 79, .t 85], p_ 15 71 (m_ 86), p_ 16 87 (.ext 0 (.t 71)), p_ 17 88 (.ext 1 (.t 71)), p_ 18 6 (m_ 87), p_ 19 7 (m_ 88)]) (h_ 21 [p_ 0 89 (m_ 0), p_ 1 90 (m_ 0), p_ 2 91 (n_ 90), p_ 3 92 (f_ 1 91), r_ 4 93 (l_ 92), p_ 5 94 (m_ 4), p_ 6 95 (m_ 6), p_ 7 96 (m_ 0), p_ 8 97 (n_ 96), p_ 9 98 (f_ 0 97), r_ 10 99 (l_ 98), p_ 11 100 (.ixs 1 (.t 99) (i_ 0)), r_ 12 101 (l_ 100), p_ 14 103 (m_ 7), c_ 13 102 14 [.t 101], a_ 4 93 (l_ 92), p_ 15 104 (.bld [.int 0 (.ofNat 0), .int 0 (.ofNat 0), .int 0 (.ofNat 0), .nilS] [(0, 1), (1, 1), (2, 1), (3, 1)] [.t 94, .t 95, .t 102, .t 103]), e_ 16 105 (.bsl 100 4 1 [.int 0 (.ofNat 0), .int 0 (.ofNat 0), .int 0 (.ofNat 0), .nilS] [(0, 4)] [.t 104]), a_ 4 93 (l_ 92), e_ 17 106 (.app 100 4 48 (.t 93) (.t 105)), p_ 18 107 (n_ 89), p_ 19 108 (f_ 1 107), e0_ 20 (.st 1 (.t 108) (.t 106))])) (.pre [.can 1 [0, 3, 4, 5]] (.spc 1 (.aft (.seq (g_ 12 [p_ 0 110 (f_ 0 3), r_ 1 111 (l_ 110), p_ 2 112 (.bin 3 4 (.t 111) (i_ 2)), p_ 3 113 (m_ 112), pg_ 4 114 113 true (m_ 4), pg_ 5 115 113 true (.bin 3 2 (.t 114) (i_ 0)), p_ 6 116 (.pick (.t 113) (.t 115) (.c (.bool false))), p_ 7 117 (m_ 116), pg_ 8 118 117 true (m_ 5), pg_ 9 119 117 true (.bin 3 0 (.t 118) (i_ 100)), p_ 10 120 (.pick (.t 117) (.t 119) (.c (.bool false))), p_ 11 109 (m_ 120)]) (.cond (.t 109) (h_ 20 [p_ 0 121 (m_ 0), p_ 1 122 (m_ 0), p_ 2 123 (n_ 122), p_ 3 124 (f_ 1 123), r_ 4 125 (l_ 124), p_ 5 126 (m_ 0), p_ 6 127 (n_ 126), p_ 7 128 (f_ 0 127), r_ 8 129 (l_ 128), p_ 9 130 (m_ 4), p_ 10 131 (.ixs 1 (.t 129) (.t 130)), r_ 11 132 (l_ 131), p_ 13 134 (m_ 4), c_ 12 133 15 [.t 132], a_ 4 125 (l_ 124), p_ 14 135 (.bld [.int 0 (.ofNat 0), .int 0 (.ofNat 0), .int 0 (.ofNat 0), .nilS] [(0, 1), (1, 1), (2, 1), (3, 1)] [i_ 0, .t 133, .t 134, .c .nilS]), e_ 15 136 (.bsl 100 4 1 [.int 0 (.ofNat 0), .int 0 (.ofNat 0), .int 0 (.ofNat 0), .nilS] [(0, 4)] [.t 135]), a_ 4 125 (l_ 124), e_ 16 137 (.app 100 4 48 (.t 125) (.t 136)), p_ 17 138 (n_ 121), p_ 18 139 (f_ 1 138), e0_ 19 (.st 1 (.t 139) (.t 137))]) (.pre [.can 1 [0, 3, 4, 5]] (.spc 0 (.aft (.seq (g_ 4 [p_ 0 141 (f_ 0 3), r_ 1 142 (l_ 141), p_ 2 143 (.bin 3 4 (.t 142) (i_ 7)), p_ 3 140 (m_ 143)]) (.cond (.t 140) (g_ 8 [p_ 0 144 (m_ 0), p_ 1 145 (n_ 144), p_ 2 146 (f_ 0 145), r_ 3 147 (l_ 146), p_ 4 148 (m_ 4), p_ 5 149 (.ixs 1 (.t 147) (.t 148)), r_ 6 150 (l_ 149), c_ 7 151 18 [.t 150]]) (.seq (g_ 8 [p_ 0 153 (f_ 0 3), r_ 1 154 (l_ 153), p_ 2 155 (.bin 3 3 (.t 154) (i_ 3)), p_ 3 156 (m_ 155), pg_ 4 157 156 true (m_ 5), pg_ 5 158 156 true (.bin 3 2 (.t 157) (i_ 0)), p_ 6 159 (.pick (.t 156) (.t 158) (.c (.bool false))), p_ 7 152 (m_ 159)]) (.cond (.t 152) (.seq (g_ 9 [p_ 0 160 (f_ 3 3), r_ 1 161 (l_ 160), p_ 2 162 (m_ 5), p_ 3 163 (.bin 0 4 (.t 161) (.t 162)), p_ 4 164 (m_ 5), p_ 5 165 (.bin 0 0 (.t 163) (.t 164)), p_ 6 166 (m_ 5), p_ 7 167 (.bin 0 4 (.t 165) (.t 166)), p_ 8 8 (m_ 167)]) (.seq (g_ 9 [p_ 0 168 (m_ 0), p_ 1 169 (n_ 168), p_ 2 170 (f_ 1 169), r_ 3 171 (l_ 170), p_ 4 172 (m_ 8), p_ 5 173 (.ixs 4 (.t 171) (.t 172)), r_ 6 174 (.ld true 4 (.t 173)), e_ 7 9 (.al 100 [.int 0 (.ofNat 0), .int 0 (.ofNat 0), .int 0 (.ofNat 0), .nilS]), e0_ 8 (.st 4 (.t 9) (.t 174))]) (.seq (.seq (g_ 3 [p_ 0 175 (f_ 0 3), r_ 1 176 (l_ 175), p_ 2 177 (.bin 3 5 (.t 176) (i_ 5))]) (.cond (.t 177) (.aft (h_ 20 [p_ 0 178 (m_ 0), p_ 2 180 (m_ 0), p_ 3 181 (n_ 180), p_ 4 182 (f_ 1 181), r_ 5 183 (l_ 182), p_ 6 184 (m_ 8), r_ 7 185 (.sls 4 (.t 183) none (some (.t 184)) none), p_ 9 187 (m_ 0), p_ 10 188 (n_ 187), p_ 11 189 (f_ 1 188), r_ 12 190 (l_ 189), p_ 13 191 (m_ 8), p_ 14 192 (.bin 0 0 (.t 191) (i_ 1)), r_ 15 193 (.sls 4 (.t 190) (some (.t 192)) none none), e_ 1 179 (.bsl 100 4 0 [] [] []), a_ 5 183 (l_ 182), a_ 7 185 (.sls 4 (.t 183) none (some (.t 184)) none), a_ 12 190 (l_ 189), a_ 15 193 (.sls 4 (.t 190) (some (.t 192)) none none), e_ 8 186 (.app 100 4 48 (.t 179) (.t 185)), a_ 12 190 (l_ 189), a_ 15 193 (.sls 4 (.t 190) (some (.t 192)) none none), e_ 16 194 (.app 100 4 48 (.t 186) (.t 193)), p_ 17 195 (n_ 178), p_ 18 196 (f_ 1 195), e0_ 19 (.st 1 (.t 196) (.t 194))]) [(0, [.cell 0 0 1 100 4 Told encT])]) .skip)) (.seq (g_ 3 [p_ 0 197 (f_ 0 3), r_ 1 198 (l_ 197), p_ 2 199 (.bin 3 5 (.t 198) (i_ 6))]) (.cond (.t 199) (g_ 3 [p_ 0 200 (m_ 0), r_ 1 201 (.ld true 4 (.t 9)), c_ 2 202 41 [.t 200, .t 201]]) .skip))))) .skip)))) [(0, [.can 1 [], .upc 3 0 8, .upc 4 0 8, .upc 5 0 8, .upc 6 0 8, .upc 7 0 8, .can 1 []])]))))) [(0, [.can 1 []])])))))))))))
theorem ft_step1_ok : chkF Try.prog 28 ft_step1 = true := by kernel_rfl
structure A_rest1 where
 f : F1
 k : Int
 x : Int
 nn : Int
 i : Int
 y : Int
 kk : Int
structure R_rest1 where
 f : F1
def po_rest1 (p : A_rest1) (r : R_rest1) : Prop := (FI1 r.f ∧ Fr1 p.f r.f) ∧ r.f.cnt = p.f.cnt
noncomputable def I_rest1 (p : A_rest1) : IL := ((.cons 5 (.sy (.int 0 p.kk)) (.cons 4 (.sy (.int 0 p.y)) (.cons 3 (.ptr 1 0) (.cons 0 (.ptr 0 0) .nil)))), (Fb1n p.f p.k p.x p.nn p.i), 8)
noncomputable def out_rest1 (p : A_rest1) (K : KC) : Bool := allB fun r : R_rest1 => iP (po_rest1 p r) (K 0 .nil (Fd1n r.f) 7) true
def pre_rest1 (p : A_rest1) : Prop := FI1 p.f ∧ 0 ≤ p.f.cnt ∧ p.f.cnt ≤ 1000000 ∧ 0 ≤ p.y ∧ p.y < 1 ∧ p.kk = (p.f.fly.length : Int)
theorem fin_rest1 {p : A_rest1} {K : KC} (hK : out_rest1 p K = true) (r : R_rest1) (h : po_rest1 p r) : K 0 .nil (Fd1n r.f) 7 = true := ifB_use h (allB_ok hK r)
noncomputable def sp_rest1 (p : A_rest1) (K : KC) : Bool := must (prB (pre_rest1 p)) (out_rest1 p K)
structure A_mid1 where
 f : F1
 k : Int
 x : Int
 nn : Int
 i : Int
 y : Int
 kk : Int
structure R_mid1 where
 f : F1
def po_mid1 (p : A_mid1) (r : R_mid1) : Prop := (FI1 r.f ∧ Fr1 p.f r.f) ∧ r.f.cnt = p.f.cnt
noncomputable def I_mid1 (p : A_mid1) : IL := ((.cons 5 (.sy (.int 0 p.kk)) (.cons 4 (.sy (.int 0 p.y)) (.cons 3 (.ptr 1 0) (.cons 0 (.ptr 0 0) .nil)))), (Fb1n p.f p.k p.x p.nn p.i), 8)
noncomputable def out_mid1 (p : A_mid1) (K : KC) : Bool := allB fun r : R_mid1 => iP (po_mid1 p r) (K 0 .nil (Fd1n r.f) 7) true
def pre_mid1 (p : A_mid1) : Prop := FI1 p.f ∧ 0 ≤ p.f.cnt ∧ p.f.cnt ≤ 1000000 ∧ 0 ≤ p.y ∧ p.y < 1 ∧ p.kk = (p.f.fly.length : Int)
theorem fin_mid1 {p : A_mid1} {K : KC} (hK : out_mid1 p K = true) (r : R_mid1) (h : po_mid1 p r) : K 0 .nil (Fd1n r.f) 7 = true := ifB_use h (allB_ok hK r)
noncomputable def sp_mid1 (p : A_mid1) (K : KC) : Bool := must (prB (pre_mid1 p)) (out_mid1 p K)
noncomputable def lp_step1 : LpF := fun j S M nx K => (Bool.rec ((Bool.rec (false) (exB fun p : A_mid1 => must (prB ((S, M, nx) = I_mid1 p)) (sp_mid1 p K)) (Nat.beq j 1))) (exB fun p : A_rest1 => must (prB ((S, M, nx) = I_rest1 p)) (sp_rest1 p K)) (Nat.beq j 0))
def bd_rest1 : XC := (.aft (.seq (g_ 4 [p_ 0 141 (f_ 0 3), r_ 1 142 (l_ 141), p_ 2 143 (.bin 3 4 (.t 142) (i_ 7)), p_ 3 140 (m_ 143)]) (.cond (.t 140) (g_ 8 [p_ 0 144 (m_ 0), p_ 1 145 (n_ 144), p_ 2 146 (f_ 0 145), r_ 3 147 (l_ 146), p_ 4 148 (m_ 4), p_ 5 149 (.ixs 1 (.t 147) (.t 148)), r_ 6 150 (l_ 149), c_ 7 151 18 [.t 150]]) (.seq (g_ 8 [p_ 0 153 (f_ 0 3), r_ 1 154 (l_ 153), p_ 2 155 (.bin 3 3 (.t 154) (i_ 3)), p_ 3 156 (m_ 155), pg_ 4 157 156 true (m_ 5), pg_ 5 158 156 true (.bin 3 2 (.t 157) (i_ 0)), p_ 6 159 (.pick (.t 156) (.t 158) (.c (.bool false))), p_ 7 152 (m_ 159)]) (.cond (.t 152) (.seq (g_ 9 [p_ 0 160 (f_ 3 3), r_ 1 161 (l_ 160), p_ 2 162 (m_ 5), p_ 3 163 (.bin 0 4 (.t 161) (.t 162)), p_ 4 164 (m_ 5), p_ 5 165 (.bin 0 0 (.t 163) (.t 164)), p_ 6 166 (m_ 5), p_ 7 167 (.bin 0 4 (.t 165) (.t 166)), p_ 8 8 (m_ 167)]) (.seq (g_ 9 [p_ 0 168 (m_ 0), p_ 1 169 (n_ 168), p_ 2 170 (f_ 1 169), r_ 3 171 (l_ 170), p_ 4 172 (m_ 8), p_ 5 173 (.ixs 4 (.t 171) (.t 172)), r_ 6 174 (.ld true 4 (.t 173)), e_ 7 9 (.al 100 [.int 0 (.ofNat 0), .int 0 (.ofNat 0), .int 0 (.ofNat 0), .nilS]), e0_ 8 (.st 4 (.t 9) (.t 174))]) (.seq (.seq (g_ 3 [p_ 0 175 (f_ 0 3), r_ 1 176 (l_ 175), p_ 2 177 (.bin 3 5 (.t 176) (i_ 5))]) (.cond (.t 177) (.aft (h_ 20 [p_ 0 178 (m_ 0), p_ 2 180 (m_ 0), p_ 3 181 (n_ 180), p_ 4 182 (f_ 1 181), r_ 5 183 (l_ 182), p_ 6 184 (m_ 8), r_ 7 185 (.sls 4 (.t 183) none (some (.t 184)) none), p_ 9 187 (m_ 0), p_ 10 188 (n_ 187), p_ 11 189 (f_ 1 188), r_ 12 190 (l_ 189), p_ 13 191 (m_ 8), p_ 14 192 (.bin 0 0 (.t 191) (i_ 1)), r_ 15 193 (.sls 4 (.t 190) (some (.t 192)) none none), e_ 1 179 (.bsl 100 4 0 [] [] []), a_ 5 183 (l_ 182), a_ 7 185 (.sls 4 (.t 183) none (some (.t 184)) none), a_ 12 190 (l_ 189), a_ 15 193 (.sls 4 (.t 190) (some (.t 192)) none none), e_ 8 186 (.app 100 4 48 (.t 179) (.t 185)), a_ 12 190 (l_ 189), a_ 15 193 (.sls 4 (.t 190) (some (.t 192)) none none), e_ 16 194 (.app 100 4 48 (.t 186) (.t 193)), p_ 17 195 (n_ 178), p_ 18 196 (f_ 1 195), e0_ 19 (.st 1 (.t 196) (.t 194))]) [(0, [.cell 0 0 1 100 4 Told encT])]) .skip)) (.seq (g_ 3 [p_ 0 197 (f_ 0 3), r_ 1 198 (l_ 197), p_ 2 199 (.bin 3 5 (.t 198) (i_ 6))]) (.cond (.t 199) (g_ 3 [p_ 0 200 (m_ 0), r_ 1 201 (.ld true 4 (.t 9)), c_ 2 202 41 [.t 200, .t 201]]) .skip))))) .skip)))) [(0, [.can 1 [], .upc 3 0 8, .upc 4 0 8, .upc 5 0 8, .upc 6 0 8, .upc 7 0 8, .can 1 []])])
theorem vb_rest1 (p : A_rest1) (K : KC) (hpre : pre_rest1 p) (hK : out_rest1 p K = true) : (codeX (cfT nat_come1) lp_step1 600 bd_rest1 (I_rest1 p).1 (I_rest1 p).2.1 (I_rest1 p).2.2 K) = true := by
 refine Eq.trans (b := (let y0 : Int := (Int.tmod ((Int.tmod p.i p.kk) + p.kk) p.kk); iP (p.k = (7 : Int)) (iP (p.y = 0) (K 0 .nil (Fd1n ({ p.f with s0 := ({ p.f.s0 with sh := true = true } : Rl) } : F1)) 7) (mP (False) (true))) (iP ((3 : Int) ≤ p.k) (iP ((0 : Int) < p.kk) (mP (p.kk ≠ 0) (mP (InR 0 ((Int.tmod p.i p.kk) + p.kk)) (mP (p.kk ≠ 0) (mP (0 ≤ y0 ∧ y0 < (p.f.fly.length : Int)) (mP ((y0.toNat) < p.f.fly.length) (allB fun x1 : Told => iP (p.f.fly[y0.toNat]? = some x1) (iP (¬ p.k = (5 : Int)) (mP (p.f.fly.length = p.f.fly.length ∧ 0 ≤ (0 : Int) ∧ (0 : Int) ≤ y0 ∧ y0 ≤ (p.f.fly.length : Int)) (mP (InR 0 (y0 + (1 : Int))) (mP (p.f.fly.length = p.f.fly.length ∧ 0 ≤ (y0 + (1 : Int)) ∧ (y0 + (1 : Int)) ≤ (p.f.fly.length : Int) ∧ (p.f.fly.length : Int) ≤ (p.f.fly.length : Int)) (mP (((.prow 3 p.f.fly.length) : SY) = (.prow 3 p.f.fly.length)) (mP (p.f.fly.length = p.f.fly.length ∧ 0 ≤ (0 : Int) ∧ (0 : Int) ≤ y0 ∧ y0 ≤ (p.f.fly.length : Int)) (mP (((.psub 3 4 0 ((y0.toNat) - 0)) : SY) = (.psub 3 4 0 ((y0.toNat) - 0))) (mP (((.prow 3 p.f.fly.length) : SY) = (.prow 3 p.f.fly.length)) (mP (p.f.fly.length = p.f.fly.length ∧ 0 ≤ (y0 + (1 : Int)) ∧ (y0 + (1 : Int)) ≤ (p.f.fly.length : Int) ∧ (p.f.fly.length : Int) ≤ (p.f.fly.length : Int)) (mP (((.psub 3 4 ((y0 + (1 : Int)).toNat) (p.f.fly.length - ((y0 + (1 : Int)).toNat))) : SY) = (.psub 3 4 ((y0 + (1 : Int)).toNat) (p.f.fly.length - ((y0 + (1 : Int)).toNat)))) (mP (0 + ((y0.toNat) - 0) ≤ p.f.fly.length) (iP (((p.f.fly.drop 0).take ((y0.toNat) - 0)) = []) (mP (((.prow 3 p.f.fly.length) : SY) = (.prow 3 p.f.fly.length)) (mP (p.f.fly.length = p.f.fly.length ∧ 0 ≤ (y0 + (1 : Int)) ∧ (y0 + (1 : Int)) ≤ (p.f.fly.length : Int) ∧ (p.f.fly.length : Int) ≤ (p.f.fly.length : Int)) (mP (((.psub 3 4 ((y0 + (1 : Int)).toNat) (p.f.fly.length - ((y0 + (1 : Int)).toNat))) : SY) = (.psub 3 4 ((y0 + (1 : Int)).toNat) (p.f.fly.length - ((y0 + (1 : Int)).toNat)))) (mP (((y0 + (1 : Int)).toNat) + (p.f.fly.length - ((y0 + (1 : Int)).toNat)) ≤ p.f.fly.length) (iP (((p.f.fly.drop ((y0 + (1 : Int)).toNat)).take (p.f.fly.length - ((y0 + (1 : Int)).toNat))) = []) (mP ((.sl 9 0 0 (.ex 0) : AV) = (.sl 9 0 0 (.ex 0) : AV)) (iP (¬ p.k = (6 : Int)) (useC (([.ptr 0 0, .agg [.sy (.int 0 x1.to), .sy (.int 0 x1.fr), .sy (.int 0 x1.c), .sy (.imm x1.h 18 Int x1.l encK)]], (Fd1 ({ p.f with fly := ([] : List Told) } : F1) 0 p.f.s0.l.length), 7)) I_come1 pre_come1 po_come1 fun p1 r1 => K 0 .nil (Fd1n r1.f) 7) (K 0 .nil (Fd1 ({ p.f with fly := ([] : List Told) } : F1) 0 p.f.s0.l.length) 7))) (mP (limP 48 ((p.f.fly.drop ((y0 + (1 : Int)).toNat)).take (p.f.fly.length - ((y0 + (1 : Int)).toNat))).length) (iP (¬ p.k = (6 : Int)) (useC (([.ptr 0 0, .agg [.sy (.int 0 x1.to), .sy (.int 0 x1.fr), .sy (.int 0 x1.c), .sy (.imm x1.h 18 Int x1.l encK)]], (Fd1 ({ p.f with fly := (p.f.fly.drop ((y0 + (1 : Int)).toNat)).take (p.f.fly.length - ((y0 + (1 : Int)).toNat)) } : F1) (((p.f.fly.drop ((y0 + (1 : Int)).toNat)).take (p.f.fly.length - ((y0 + (1 : Int)).toNat))).length) p.f.s0.l.length), 7)) I_come1 pre_come1 po_come1 fun p2 r2 => K 0 .nil (Fd1n r2.f) 7) (K 0 .nil (Fd1 ({ p.f with fly := (p.f.fly.drop ((y0 + (1 : Int)).toNat)).take (p.f.fly.length - ((y0 + (1 : Int)).toNat)) } : F1) (((p.f.fly.drop ((y0 + (1 : Int)).toNat)).take (p.f.fly.length - ((y0 + (1 : Int)).toNat))).length) p.f.s0.l.length) 7)))))))) (mP (limP 48 ((p.f.fly.drop 0).take ((y0.toNat) - 0)).length) (mP (((.prow 3 p.f.fly.length) : SY) = (.prow 3 p.f.fly.length)) (mP (p.f.fly.length = p.f.fly.length ∧ 0 ≤ (y0 + (1 : Int)) ∧ (y0 + (1 : Int)) ≤ (p.f.fly.length : Int) ∧ (p.f.fly.length : Int) ≤ (p.f.fly.length : Int)) (mP (((.psub 3 4 ((y0 + (1 : Int)).toNat) (p.f.fly.length - ((y0 + (1 : Int)).toNat))) : SY) = (.psub 3 4 ((y0 + (1 : Int)).toNat) (p.f.fly.length - ((y0 + (1 : Int)).toNat)))) (mP (((y0 + (1 : Int)).toNat) + (p.f.fly.length - ((y0 + (1 : Int)).toNat)) ≤ p.f.fly.length) (mP ((((p.f.fly.drop 0).take ((y0.toNat) - 0)).length) = ((p.f.fly.drop 0).take ((y0.toNat) - 0)).length) (iP (((p.f.fly.drop ((y0 + (1 : Int)).toNat)).take (p.f.fly.length - ((y0 + (1 : Int)).toNat))) = []) (iP (¬ p.k = (6 : Int)) (useC (([.ptr 0 0, .agg [.sy (.int 0 x1.to), .sy (.int 0 x1.fr), .sy (.int 0 x1.c), .sy (.imm x1.h 18 Int x1.l encK)]], (Fd1 ({ p.f with fly := (p.f.fly.drop 0).take ((y0.toNat) - 0) } : F1) (((p.f.fly.drop 0).take ((y0.toNat) - 0)).length) p.f.s0.l.length), 7)) I_come1 pre_come1 po_come1 fun p4 r4 => K 0 .nil (Fd1n r4.f) 7) (K 0 .nil (Fd1 ({ p.f with fly := (p.f.fly.drop 0).take ((y0.toNat) - 0) } : F1) (((p.f.fly.drop 0).take ((y0.toNat) - 0)).length) p.f.s0.l.length) 7)) (exB fun m1 : List Told => mP (rowsR (m1.map encT) (((p.f.fly.drop ((y0 + (1 : Int)).toNat)).take (p.f.fly.length - ((y0 + (1 : Int)).toNat))).map encT)) (mP (limP 48 (((p.f.fly.drop 0).take ((y0.toNat) - 0)).length + m1.length)) (iP (¬ p.k = (6 : Int)) (useC (([.ptr 0 0, .agg [.sy (.int 0 x1.to), .sy (.int 0 x1.fr), .sy (.int 0 x1.c), .sy (.imm x1.h 18 Int x1.l encK)]], (Fd1 ({ p.f with fly := ((p.f.fly.drop 0).take ((y0.toNat) - 0)) ++ m1 } : F1) ((((p.f.fly.drop 0).take ((y0.toNat) - 0)) ++ m1).length) p.f.s0.l.length), 7)) I_come1 pre_come1 po_come1 fun p3 r3 => K 0 .nil (Fd1n r3.f) 7) (K 0 .nil (Fd1 ({ p.f with fly := ((p.f.fly.drop 0).take ((y0.toNat) - 0)) ++ m1 } : F1) ((((p.f.fly.drop 0).take ((y0.toNat) - 0)) ++ m1).length) p.f.s0.l.length) 7)))))))))))))))))))))) (iP (¬ p.k = (6 : Int)) (useC (([.ptr 0 0, .agg [.sy (.int 0 x1.to), .sy (.int 0 x1.fr), .sy (.int 0 x1.c), .sy (.imm x1.h 18 Int x1.l encK)]], (Fd1n p.f), 7)) I_come1 pre_come1 po_come1 fun p5 r5 => K 0 .nil (Fd1n r5.f) 7) (K 0 .nil (Fd1n p.f) 7))) true)))))) (K 0 .nil (Fd1n p.f) 7)) (K 0 .nil (Fd1n p.f) 7)))) (by kernel_rfl) ?_
 dsimp only [pre_rest1] at hpre
 obtain ⟨hinv, k1, k2, k3, k4, k5⟩ := hpre
 have hinv : FInv p.f.s0 _ _ p.f.fly := hinv
 obtain ⟨hs, hfew, f0⟩ := fact1 hinv
 have t6 := tmk p.kk p.i
 have t7 := tmk2 p.kk p.i
 refine iI (fun hc1 => ?_) (fun hc1 => ?_)
 refine iI (fun hc2 => ?_) (fun hc2 => ?_)
 exact fin_rest1 hK ⟨({ p.f with s0 := ({ p.f.s0 with sh := true = true } : Rl) } : F1)⟩ (by dsimp only [po_rest1] <;> (first | (exfalso; omega) | exact ⟨(by first | exact ⟨tr_shut hinv _, frz_shut rfl⟩), by first | rfl | exact hi0.2⟩))
 refine mI (by omega) ?_
 rfl
 refine iI (fun hc3 => ?_) (fun hc3 => ?_)
 refine iI (fun hc4 => ?_) (fun hc4 => ?_)
 refine mI (by omega) (mI (by simp only [InR]; omega) (mI (by omega) (mI (by first | omega | (constructor <;> omega)) (mI (by omega) ?_))))
 refine allB_mk (fun x1 => ?_)
 refine iI (fun hi5 => ?_) (fun _ => rfl)
 have hm := hinv.msgs x1 (List.mem_of_getElem? (by assumption))
 refine iI (fun hc6 => ?_) (fun hc6 => ?_)
 refine mI (by first | omega | (simp; omega)) (mI (by simp only [InR]; omega) (mI (by first | omega | (simp; omega)) (mI (rfl) (mI (by first | omega | (simp; omega)) (mI (rfl) (mI (rfl) (mI (by first | omega | (simp; omega)) (mI (rfl) (mI (by (first | omega | (simp [limP] <;> omega))) ?_)))))))))
 refine iI (fun hc7 => ?_) (fun hc7 => ?_)
 have hc7l : (((p.f.fly.drop 0).take (((Int.tmod ((Int.tmod p.i p.kk) + p.kk) p.kk).toNat) - 0))).length = 0 := (by rw [hc7]; rfl)
 refine mI (rfl) (mI (by first | omega | (simp; omega)) (mI (rfl) (mI (by (first | omega | (simp [limP] <;> omega))) ?_)))
 refine iI (fun hc8 => ?_) (fun hc8 => ?_)
 have hc8l : (((p.f.fly.drop (((Int.tmod ((Int.tmod p.i p.kk) + p.kk) p.kk) + (1 : Int)).toNat)).take (p.f.fly.length - (((Int.tmod ((Int.tmod p.i p.kk) + p.kk) p.kk) + (1 : Int)).toNat)))).length = 0 := (by rw [hc8]; rfl)
 refine mI (rfl) ?_
 refine iI (fun hc9 => ?_) (fun hc9 => ?_)
 refine callPR (⟨({ p.f with fly := ([] : List Told) } : F1), x1⟩ : A_come1) rfl (by (try dsimp only [pre_come1]); exact ⟨(hinv.sub (fun _ h => by simp at h) (by simp)), hm⟩) fun r1 hi10 => ?_
 dsimp only [po_come1] at hi10
 exact fin_rest1 hK ⟨r1.f⟩ (by dsimp only [po_rest1] <;> (first | (exfalso; omega) | exact ⟨(by first | exact hi10.1), by first | rfl | exact hi10.2⟩))
 exact fin_rest1 hK ⟨({ p.f with fly := ([] : List Told) } : F1)⟩ (by dsimp only [po_rest1] <;> (first | (exfalso; omega) | exact ⟨(by first | exact ⟨(hinv.sub (fun _ h => by simp at h) (by simp)), Frz.refl _⟩), by first | rfl | exact hi5.2⟩))
 have hc8l : 0 < (((p.f.fly.drop (((Int.tmod ((Int.tmod p.i p.kk) + p.kk) p.kk) + (1 : Int)).toNat)).take (p.f.fly.length - (((Int.tmod ((Int.tmod p.i p.kk) + p.kk) p.kk) + (1 : Int)).toNat)))).length := List.length_pos_iff.2 hc8
 refine mI (by simp [limP]; omega) ?_
 refine iI (fun hc11 => ?_) (fun hc11 => ?_)
 refine callPR (⟨({ p.f with fly := (p.f.fly.drop (((Int.tmod ((Int.tmod p.i p.kk) + p.kk) p.kk) + (1 : Int)).toNat)).take (p.f.fly.length - (((Int.tmod ((Int.tmod p.i p.kk) + p.kk) p.kk) + (1 : Int)).toNat)) } : F1), x1⟩ : A_come1) rfl (by (try dsimp only [pre_come1]); exact ⟨(hinv.sub sub_one (by simp; omega)), hm⟩) fun r2 hi12 => ?_
 dsimp only [po_come1] at hi12
 exact fin_rest1 hK ⟨r2.f⟩ (by dsimp only [po_rest1] <;> (first | (exfalso; omega) | exact ⟨(by first | exact hi12.1), by first | rfl | exact hi12.2⟩))
 exact fin_rest1 hK ⟨({ p.f with fly := (p.f.fly.drop (((Int.tmod ((Int.tmod p.i p.kk) + p.kk) p.kk) + (1 : Int)).toNat)).take (p.f.fly.length - (((Int.tmod ((Int.tmod p.i p.kk) + p.kk) p.kk) + (1 : Int)).toNat)) } : F1)⟩ (by dsimp only [po_rest1] <;> (first | (exfalso; omega) | exact ⟨(by first | exact ⟨(hinv.sub sub_one (by simp; omega)), Frz.refl _⟩), by first | rfl | exact hi5.2⟩))
 have hc7l : 0 < (((p.f.fly.drop 0).take (((Int.tmod ((Int.tmod p.i p.kk) + p.kk) p.kk).toNat) - 0))).length := List.length_pos_iff.2 hc7
 refine mI (by simp [limP]; omega) (mI (rfl) (mI (by first | omega | (simp; omega)) (mI (rfl) (mI (by (first | omega | (simp [limP] <;> omega))) (mI (rfl) ?_)))))
 refine iI (fun hc13 => ?_) (fun hc13 => ?_)
 have hc13l : (((p.f.fly.drop (((Int.tmod ((Int.tmod p.i p.kk) + p.kk) p.kk) + (1 : Int)).toNat)).take (p.f.fly.length - (((Int.tmod ((Int.tmod p.i p.kk) + p.kk) p.kk) + (1 : Int)).toNat)))).length = 0 := (by rw [hc13]; rfl)
 refine iI (fun hc14 => ?_) (fun hc14 => ?_)
 refine callPR (⟨({ p.f with fly := (p.f.fly.drop 0).take (((Int.tmod ((Int.tmod p.i p.kk) + p.kk) p.kk).toNat) - 0) } : F1), x1⟩ : A_come1) rfl (by (try dsimp only [pre_come1]); exact ⟨(hinv.sub sub_one (by simp; omega)), hm⟩) fun r4 hi15 => ?_
 dsimp only [po_come1] at hi15
 exact fin_rest1 hK ⟨r4.f⟩ (by dsimp only [po_rest1] <;> (first | (exfalso; omega) | exact ⟨(by first | exact hi15.1), by first | rfl | exact hi15.2⟩))
 exact fin_rest1 hK ⟨({ p.f with fly := (p.f.fly.drop 0).take (((Int.tmod ((Int.tmod p.i p.kk) + p.kk) p.kk).toNat) - 0) } : F1)⟩ (by dsimp only [po_rest1] <;> (first | (exfalso; omega) | exact ⟨(by first | exact ⟨(hinv.sub sub_one (by simp; omega)), Frz.refl _⟩), by first | rfl | exact hi5.2⟩))
 have hc13l : 0 < (((p.f.fly.drop (((Int.tmod ((Int.tmod p.i p.kk) + p.kk) p.kk) + (1 : Int)).toNat)).take (p.f.fly.length - (((Int.tmod ((Int.tmod p.i p.kk) + p.kk) p.kk) + (1 : Int)).toNat)))).length := List.length_pos_iff.2 hc13
 refine exB_mk ((p.f.fly.drop (((Int.tmod ((Int.tmod p.i p.kk) + p.kk) p.kk) + (1 : Int)).toNat)).take (p.f.fly.length - (((Int.tmod ((Int.tmod p.i p.kk) + p.kk) p.kk) + (1 : Int)).toNat))) ?_
 refine mI (show rowsR (((p.f.fly.drop (((Int.tmod ((Int.tmod p.i p.kk) + p.kk) p.kk) + (1 : Int)).toNat)).take (p.f.fly.length - (((Int.tmod ((Int.tmod p.i p.kk) + p.kk) p.kk) + (1 : Int)).toNat))).map encT) (((p.f.fly.drop (((Int.tmod ((Int.tmod p.i p.kk) + p.kk) p.kk) + (1 : Int)).toNat)).take (p.f.fly.length - (((Int.tmod ((Int.tmod p.i p.kk) + p.kk) p.kk) + (1 : Int)).toNat))).map encT) from rowsR_refl _) ?_
 refine mI (by simp [limP]; omega) ?_
 refine iI (fun hc16 => ?_) (fun hc16 => ?_)
 refine callPR (⟨({ p.f with fly := ((p.f.fly.drop 0).take (((Int.tmod ((Int.tmod p.i p.kk) + p.kk) p.kk).toNat) - 0)) ++ ((p.f.fly.drop (((Int.tmod ((Int.tmod p.i p.kk) + p.kk) p.kk) + (1 : Int)).toNat)).take (p.f.fly.length - (((Int.tmod ((Int.tmod p.i p.kk) + p.kk) p.kk) + (1 : Int)).toNat))) } : F1), x1⟩ : A_come1) rfl (by (try dsimp only [pre_come1]); exact ⟨(hinv.sub sub_cut (by simp; omega)), hm⟩) fun r3 hi17 => ?_
 dsimp only [po_come1] at hi17
 exact fin_rest1 hK ⟨r3.f⟩ (by dsimp only [po_rest1] <;> (first | (exfalso; omega) | exact ⟨(by first | exact hi17.1), by first | rfl | exact hi17.2⟩))
 exact fin_rest1 hK ⟨({ p.f with fly := ((p.f.fly.drop 0).take (((Int.tmod ((Int.tmod p.i p.kk) + p.kk) p.kk).toNat) - 0)) ++ ((p.f.fly.drop (((Int.tmod ((Int.tmod p.i p.kk) + p.kk) p.kk) + (1 : Int)).toNat)).take (p.f.fly.length - (((Int.tmod ((Int.tmod p.i p.kk) + p.kk) p.kk) + (1 : Int)).toNat))) } : F1)⟩ (by dsimp only [po_rest1] <;> (first | (exfalso; omega) | exact ⟨(by first | exact ⟨(hinv.sub sub_cut (by simp; omega)), Frz.refl _⟩), by first | rfl | exact hi5.2⟩))
 refine iI (fun hc18 => ?_) (fun hc18 => ?_)
 refine callPR (⟨p.f, x1⟩ : A_come1) rfl (by (try dsimp only [pre_come1]); exact ⟨hinv, hm⟩) fun r5 hi19 => ?_
 dsimp only [po_come1] at hi19
 exact fin_rest1 hK ⟨r5.f⟩ (by dsimp only [po_rest1] <;> (first | (exfalso; omega) | exact ⟨(by first | exact hi19.1), by first | rfl | exact hi19.2⟩))
 exact fin_rest1 hK ⟨p.f⟩ (by dsimp only [po_rest1] <;> (first | (exfalso; omega) | exact ⟨(by first | exact ⟨hinv, Frz.refl _⟩), by first | rfl | exact hi5.2⟩))
 exact fin_rest1 hK ⟨p.f⟩ (by dsimp only [po_rest1] <;> (first | (exfalso; omega) | exact ⟨(by first | exact ⟨hinv, Frz.refl _⟩), by first | rfl | exact hi0.2⟩))
 exact fin_rest1 hK ⟨p.f⟩ (by dsimp only [po_rest1] <;> (first | (exfalso; omega) | exact ⟨(by first | exact ⟨hinv, Frz.refl _⟩), by first | rfl | exact hi0.2⟩))
theorem lo_rest1 : LpOk Try.prog 203 1 lp_step1 false 0 bd_rest1 := by
 refine sp_of (lf := 600) tb_mix (cfT_ok nat_come1_ok) (by rfl) (fun b j x h => by cases h) (fun S M nx K h => ?_)
 obtain ⟨p, h⟩ := exB_ok h
 obtain ⟨e, h9⟩ := mustP_ok h
 clear h
 have e1 : S = (I_rest1 p).1 := congrArg Prod.fst e
 have e2 : M = (I_rest1 p).2.1 := congrArg (fun x => x.2.1) e
 have e3 : nx = (I_rest1 p).2.2 := congrArg (fun x => x.2.2) e
 subst e1; subst e2; subst e3
 exact vb_rest1 p K (mustP_ok h9).1 (mustP_ok h9).2
def bd_mid1 : XC := (.aft (.seq (g_ 12 [p_ 0 110 (f_ 0 3), r_ 1 111 (l_ 110), p_ 2 112 (.bin 3 4 (.t 111) (i_ 2)), p_ 3 113 (m_ 112), pg_ 4 114 113 true (m_ 4), pg_ 5 115 113 true (.bin 3 2 (.t 114) (i_ 0)), p_ 6 116 (.pick (.t 113) (.t 115) (.c (.bool false))), p_ 7 117 (m_ 116), pg_ 8 118 117 true (m_ 5), pg_ 9 119 117 true (.bin 3 0 (.t 118) (i_ 100)), p_ 10 120 (.pick (.t 117) (.t 119) (.c (.bool false))), p_ 11 109 (m_ 120)]) (.cond (.t 109) (h_ 20 [p_ 0 121 (m_ 0), p_ 1 122 (m_ 0), p_ 2 123 (n_ 122), p_ 3 124 (f_ 1 123), r_ 4 125 (l_ 124), p_ 5 126 (m_ 0), p_ 6 127 (n_ 126), p_ 7 128 (f_ 0 127), r_ 8 129 (l_ 128), p_ 9 130 (m_ 4), p_ 10 131 (.ixs 1 (.t 129) (.t 130)), r_ 11 132 (l_ 131), p_ 13 134 (m_ 4), c_ 12 133 15 [.t 132], a_ 4 125 (l_ 124), p_ 14 135 (.bld [.int 0 (.ofNat 0), .int 0 (.ofNat 0), .int 0 (.ofNat 0), .nilS] [(0, 1), (1, 1), (2, 1), (3, 1)] [i_ 0, .t 133, .t 134, .c .nilS]), e_ 15 136 (.bsl 100 4 1 [.int 0 (.ofNat 0), .int 0 (.ofNat 0), .int 0 (.ofNat 0), .nilS] [(0, 4)] [.t 135]), a_ 4 125 (l_ 124), e_ 16 137 (.app 100 4 48 (.t 125) (.t 136)), p_ 17 138 (n_ 121), p_ 18 139 (f_ 1 138), e0_ 19 (.st 1 (.t 139) (.t 137))]) (.pre [.can 1 [0, 3, 4, 5]] (.spc 0 (.aft (.seq (g_ 4 [p_ 0 141 (f_ 0 3), r_ 1 142 (l_ 141), p_ 2 143 (.bin 3 4 (.t 142) (i_ 7)), p_ 3 140 (m_ 143)]) (.cond (.t 140) (g_ 8 [p_ 0 144 (m_ 0), p_ 1 145 (n_ 144), p_ 2 146 (f_ 0 145), r_ 3 147 (l_ 146), p_ 4 148 (m_ 4), p_ 5 149 (.ixs 1 (.t 147) (.t 148)), r_ 6 150 (l_ 149), c_ 7 151 18 [.t 150]]) (.seq (g_ 8 [p_ 0 153 (f_ 0 3), r_ 1 154 (l_ 153), p_ 2 155 (.bin 3 3 (.t 154) (i_ 3)), p_ 3 156 (m_ 155), pg_ 4 157 156 true (m_ 5), pg_ 5 158 156 true (.bin 3 2 (.t 157) (i_ 0)), p_ 6 159 (.pick (.t 156) (.t 158) (.c (.bool false))), p_ 7 152 (m_ 159)]) (.cond (.t 152) (.seq (g_ 9 [p_ 0 160 (f_ 3 3), r_ 1 161 (l_ 160), p_ 2 162 (m_ 5), p_ 3 163 (.bin 0 4 (.t 161) (.t 162)), p_ 4 164 (m_ 5), p_ 5 165 (.bin 0 0 (.t 163) (.t 164)), p_ 6 166 (m_ 5), p_ 7 167 (.bin 0 4 (.t 165) (.t 166)), p_ 8 8 (m_ 167)]) (.seq (g_ 9 [p_ 0 168 (m_ 0), p_ 1 169 (n_ 168), p_ 2 170 (f_ 1 169), r_ 3 171 (l_ 170), p_ 4 172 (m_ 8), p_ 5 173 (.ixs 4 (.t 171) (.t 172)), r_ 6 174 (.ld true 4 (.t 173)), e_ 7 9 (.al 100 [.int 0 (.ofNat 0), .int 0 (.ofNat 0), .int 0 (.ofNat 0), .nilS]), e0_ 8 (.st 4 (.t 9) (.t 174))]) (.seq (.seq (g_ 3 [p_ 0 175 (f_ 0 3), r_ 1 176 (l_ 175), p_ 2 177 (.bin 3 5 (.t 176) (i_ 5))]) (.cond (.t 177) (.aft (h_ 20 [p_ 0 178 (m_ 0), p_ 2 180 (m_ 0), p_ 3 181 (n_ 180), p_ 4 182 (f_ 1 181), r_ 5 183 (l_ 182), p_ 6 184 (m_ 8), r_ 7 185 (.sls 4 (.t 183) none (some (.t 184)) none), p_ 9 187 (m_ 0), p_ 10 188 (n_ 187), p_ 11 189 (f_ 1 188), r_ 12 190 (l_ 189), p_ 13 191 (m_ 8), p_ 14 192 (.bin 0 0 (.t 191) (i_ 1)), r_ 15 193 (.sls 4 (.t 190) (some (.t 192)) none none), e_ 1 179 (.bsl 100 4 0 [] [] []), a_ 5 183 (l_ 182), a_ 7 185 (.sls 4 (.t 183) none (some (.t 184)) none), a_ 12 190 (l_ 189), a_ 15 193 (.sls 4 (.t 190) (some (.t 192)) none none), e_ 8 186 (.app 100 4 48 (.t 179) (.t 185)), a_ 12 190 (l_ 189), a_ 15 193 (.sls 4 (.t 190) (some (.t 192)) none none), e_ 16 194 (.app 100 4 48 (.t 186) (.t 193)), p_ 17 195 (n_ 178), p_ 18 196 (f_ 1 195), e0_ 19 (.st 1 (.t 196) (.t 194))]) [(0, [.cell 0 0 1 100 4 Told encT])]) .skip)) (.seq (g_ 3 [p_ 0 197 (f_ 0 3), r_ 1 198 (l_ 197), p_ 2 199 (.bin 3 5 (.t 198) (i_ 6))]) (.cond (.t 199) (g_ 3 [p_ 0 200 (m_ 0), r_ 1 201 (.ld true 4 (.t 9)), c_ 2 202 41 [.t 200, .t 201]]) .skip))))) .skip)))) [(0, [.can 1 [], .upc 3 0 8, .upc 4 0 8, .upc 5 0 8, .upc 6 0 8, .upc 7 0 8, .can 1 []])]))))) [(0, [.can 1 []])])
theorem vb_mid1 (p : A_mid1) (K : KC) (hpre : pre_mid1 p) (hK : out_mid1 p K = true) : (codeX (cfT nat_come1) lp_step1 600 bd_mid1 (I_mid1 p).1 (I_mid1 p).2.1 (I_mid1 p).2.2 K) = true := by
 refine Eq.trans (b := (iP (p.k = (2 : Int)) (iP ((0 : Int) < p.y) (iP (p.kk < (100 : Int)) (iP (p.y = 0) (mP (((.prow 3 p.f.fly.length) : SY) = (.prow 3 p.f.fly.length)) (mP (((.prow 3 p.f.fly.length) : SY) = (.prow 3 p.f.fly.length)) (mP (p.f.fly.length = p.f.fly.length) (exB fun m1 : List Told => mP (rowsR (m1.map encT) [[.int 0 (.ofNat 0), .sint 0 (p.f.s0.l.length : Int), .sint 0 p.y, .nilS]]) (mP (limP 48 (p.f.fly.length + m1.length)) (K 0 .nil (Fd1 ({ p.f with fly := p.f.fly ++ m1 } : F1) ((p.f.fly ++ m1).length) p.f.s0.l.length) 7)))))) (mP (False) (true))) (useC (((.cons 5 (.sy (.int 0 p.kk)) (.cons 4 (.sy (.int 0 p.y)) (.cons 3 (.ptr 1 0) (.cons 0 (.ptr 0 0) .nil)))), (Fb1n p.f p.k p.x p.nn p.i), 8)) I_rest1 pre_rest1 po_rest1 fun p1 r1 => K 0 .nil (Fd1n r1.f) 7)) (useC (((.cons 5 (.sy (.int 0 p.kk)) (.cons 4 (.sy (.int 0 p.y)) (.cons 3 (.ptr 1 0) (.cons 0 (.ptr 0 0) .nil)))), (Fb1n p.f p.k p.x p.nn p.i), 8)) I_rest1 pre_rest1 po_rest1 fun p2 r2 => K 0 .nil (Fd1n r2.f) 7)) (useC (((.cons 5 (.sy (.int 0 p.kk)) (.cons 4 (.sy (.int 0 p.y)) (.cons 3 (.ptr 1 0) (.cons 0 (.ptr 0 0) .nil)))), (Fb1n p.f p.k p.x p.nn p.i), 8)) I_rest1 pre_rest1 po_rest1 fun p3 r3 => K 0 .nil (Fd1n r3.f) 7))) (by kernel_rfl) ?_
 dsimp only [pre_mid1] at hpre
 obtain ⟨hinv, k1, k2, k3, k4, k5⟩ := hpre
 have hinv : FInv p.f.s0 _ _ p.f.fly := hinv
 obtain ⟨hs, hfew, f0⟩ := fact1 hinv
 refine iI (fun hc1 => ?_) (fun hc1 => ?_)
 refine iI (fun hc2 => ?_) (fun hc2 => ?_)
 refine iI (fun hc3 => ?_) (fun hc3 => ?_)
 refine iI (fun hc4 => ?_) (fun hc4 => ?_)
 refine mI (rfl) (mI (rfl) (mI (rfl) ?_))
 refine exB_mk [⟨(0 : Int), (p.f.s0.l.length : Int), p.y, (.slice none 0 0), []⟩] ?_
 refine mI ((rows4 (.inr (.inl ⟨_, _, rfl, rfl⟩)) (.inl rfl) (.inl rfl) (.inr (.inr ⟨_, _, _, by decide, rfl, rfl⟩)))) (mI (by simp [limP]; omega) ?_)
 exact fin_mid1 hK ⟨({ p.f with fly := p.f.fly ++ [⟨(0 : Int), (p.f.s0.l.length : Int), p.y, (.slice none 0 0), []⟩] } : F1)⟩ (by dsimp only [po_mid1] <;> (first | (exfalso; omega) | exact ⟨(by first | exact ⟨tr_len (j := 0) hinv (by omega) rfl (by omega) rfl, Frz.refl _⟩), by first | rfl | exact hi0.2⟩))
 refine mI (by omega) ?_
 rfl
 refine callPR (⟨p.f, p.k, p.x, p.nn, p.i, p.y, p.kk⟩ : A_rest1) rfl (by (try dsimp only [pre_rest1]); exact ⟨hinv, by omega, by omega, by omega, by omega, by omega⟩) fun r1 hi5 => ?_
 dsimp only [po_rest1] at hi5
 exact fin_mid1 hK ⟨r1.f⟩ (by dsimp only [po_mid1] <;> (first | (exfalso; omega) | exact ⟨(by first | exact hi5.1), by first | rfl | exact hi5.2⟩))
 refine callPR (⟨p.f, p.k, p.x, p.nn, p.i, p.y, p.kk⟩ : A_rest1) rfl (by (try dsimp only [pre_rest1]); exact ⟨hinv, by omega, by omega, by omega, by omega, by omega⟩) fun r2 hi6 => ?_
 dsimp only [po_rest1] at hi6
 exact fin_mid1 hK ⟨r2.f⟩ (by dsimp only [po_mid1] <;> (first | (exfalso; omega) | exact ⟨(by first | exact hi6.1), by first | rfl | exact hi6.2⟩))
 refine callPR (⟨p.f, p.k, p.x, p.nn, p.i, p.y, p.kk⟩ : A_rest1) rfl (by (try dsimp only [pre_rest1]); exact ⟨hinv, by omega, by omega, by omega, by omega, by omega⟩) fun r3 hi7 => ?_
 dsimp only [po_rest1] at hi7
 exact fin_mid1 hK ⟨r3.f⟩ (by dsimp only [po_mid1] <;> (first | (exfalso; omega) | exact ⟨(by first | exact hi7.1), by first | rfl | exact hi7.2⟩))
theorem lo_mid1 : LpOk Try.prog 203 1 lp_step1 false 1 bd_mid1 := by
 refine sp_of (lf := 600) tb_mix (cfT_ok nat_come1_ok) (by rfl) (fun b j x h => (mem_step lo_rest1 (fun h => (by cases h)) h)) (fun S M nx K h => ?_)
 obtain ⟨p, h⟩ := exB_ok h
 obtain ⟨e, h9⟩ := mustP_ok h
 clear h
 have e1 : S = (I_mid1 p).1 := congrArg Prod.fst e
 have e2 : M = (I_mid1 p).2.1 := congrArg (fun x => x.2.1) e
 have e3 : nx = (I_mid1 p).2.2 := congrArg (fun x => x.2.2) e
 subst e1; subst e2; subst e3
 exact vb_mid1 p K (mustP_ok h9).1 (mustP_ok h9).2
structure A_step1 where
 f : F1
 k : Int
 x : Int
 nn : Int
 i : Int
structure R_step1 where
 f : F1
def po_step1 (p : A_step1) (r : R_step1) : Prop := (FI1 r.f ∧ Fr1 p.f r.f) ∧ 0 ≤ r.f.cnt ∧ r.f.cnt ≤ p.f.cnt + 1
noncomputable def I_step1 (p : A_step1) : IE := ([.ptr 0 0, .agg [.sy (.int 0 p.k), .sy (.int 0 p.x), .sy (.int 0 p.nn), .sy (.int 0 p.i)]], (Fd1n p.f), 7)
noncomputable def out_step1 (p : A_step1) (K : KE) : Bool := allB fun r : R_step1 => iP (po_step1 p r) (K (.tup []) (Fd1n r.f) 7) true
def pre_step1 (p : A_step1) : Prop := FI1 p.f ∧ 0 ≤ p.f.cnt ∧ p.f.cnt ≤ 1000000
theorem fin_step1 {p : A_step1} {K : KE} (hK : out_step1 p K = true) (r : R_step1) (h : po_step1 p r) : K (.tup []) (Fd1n r.f) 7 = true := ifB_use h (allB_ok hK r)
theorem vf_step1 (p : A_step1) (K : KE) (hpre : pre_step1 p) (hK : out_step1 p K = true) : (funE 1 (cfT nat_come1) lp_step1 600 ft_step1 (I_step1 p).1 (I_step1 p).2.1 (I_step1 p).2.2 K) = true := by
 refine Eq.trans (b := (let y0 : Int := (Int.tmod ((Int.tmod p.x (1 : Int)) + (1 : Int)) (1 : Int)); let y1 : Int := ((Int.tmod p.nn (3 : Int)) + (3 : Int)); mP ((1 : Int) ≠ 0) (mP (InR 0 ((Int.tmod p.x (1 : Int)) + (1 : Int))) (mP ((1 : Int) ≠ 0) (iP (p.k = (0 : Int)) (mP (InR 0 (p.f.cnt + (1 : Int))) (mP ((16 : Int) ≠ 0) (mP (InR 1 (Int.tmod (p.f.cnt + (1 : Int)) (16 : Int))) (useC (([.ptr 0 0, .agg [.int 1 (.ofNat 2), .int 1 (.ofNat 0), .int 2 (.ofNat 0), .int 3 (.ofNat 0), .int 1 (.ofNat 0), .int 1 (.ofNat 0), .int 1 (.ofNat 0), .int 1 (.ofNat 0), .int 1 (.ofNat 0), .int 1 (.ofNat 0), .int 1 (.ofNat 0), .int 3 (.ofNat 0), .nilS, .int 1 (.ofNat 0), .str [], .nilS, .sy (.int 1 (Int.tmod (p.f.cnt + (1 : Int)) (16 : Int))), .int 2 (.ofNat 1)]], (Ro1n p.f.s0.l p.f.s0.com p.f.s0.sh p.f.c0), 4)) I_add1 pre_add1 po_add1 fun p1 r1 => K (.tup []) (Fd1n ⟨⟨r1.l, r1.com, p1.sh⟩, r1.c0, p.f.fly, p.f.cnt + (1 : Int)⟩) 7)))) (iP (p.k = (1 : Int)) (iP ((0 : Int) < y0) (iP ((p.f.fly.length : Int) < (100 : Int)) (mP ((3 : Int) ≠ 0) (mP (InR 0 y1) (mP ((3 : Int) ≠ 0) (mP (InR 0 ((1 : Int) + (Int.tmod y1 (3 : Int)))) (mP (InR 1 y0) (mP (((.int 0 p.nn) : SY) = (.int 0 p.nn)) (useC (([.ptr 0 0, .agg [.sy (.int 1 y0), .int 2 (.ofNat 1)], .sy (.int 0 ((1 : Int) + (Int.tmod y1 (3 : Int))))], (Ro1n p.f.s0.l p.f.s0.com p.f.s0.sh p.f.c0), 4)) I_since1 pre_since1 po_since1 fun p2 r2 => mP (((.prow 2 p.f.fly.length) : SY) = (.prow 2 p.f.fly.length)) (mP (((.prow 2 p.f.fly.length) : SY) = (.prow 2 p.f.fly.length)) (mP (p.f.fly.length = p.f.fly.length) (exB fun m1 : List Told => mP (rowsR (m1.map encT) [[.sint 0 y0, .sint 0 r2.fr, .sint 0 p2.com, .imm r2.h 18 Int r2.o encK]]) (mP (limP 48 (p.f.fly.length + m1.length)) (K (.tup []) (Fd1 ⟨⟨p2.l, p2.com, p2.sh⟩, p2.c0, p.f.fly ++ m1, p.f.cnt⟩ ((p.f.fly ++ m1).length) p2.l.length) 7)))))))))))) (useC (((.cons 5 (.sy (.int 0 (p.f.fly.length : Int))) (.cons 4 (.sy (.int 0 y0)) (.cons 3 (.ptr 1 0) (.cons 0 (.ptr 0 0) .nil)))), (Fb1n p.f p.k p.x p.nn p.i), 8)) I_mid1 pre_mid1 po_mid1 fun p3 r3 => K (.tup []) (Fd1n r3.f) 7)) (useC (((.cons 5 (.sy (.int 0 (p.f.fly.length : Int))) (.cons 4 (.sy (.int 0 y0)) (.cons 3 (.ptr 1 0) (.cons 0 (.ptr 0 0) .nil)))), (Fb1n p.f p.k p.x p.nn p.i), 8)) I_mid1 pre_mid1 po_mid1 fun p4 r4 => K (.tup []) (Fd1n r4.f) 7)) (useC (((.cons 5 (.sy (.int 0 (p.f.fly.length : Int))) (.cons 4 (.sy (.int 0 y0)) (.cons 3 (.ptr 1 0) (.cons 0 (.ptr 0 0) .nil)))), (Fb1n p.f p.k p.x p.nn p.i), 8)) I_mid1 pre_mid1 po_mid1 fun p5 r5 => K (.tup []) (Fd1n r5.f) 7))))))) (by kernel_rfl) ?_
 dsimp only [pre_step1] at hpre
 obtain ⟨hinv, k1, k2⟩ := hpre
 have hinv : FInv p.f.s0 _ _ p.f.fly := hinv
 obtain ⟨hs, hfew, f0⟩ := fact1 hinv
 have t1 := tmb 1 (by decide) p.x
 have t2 := tmp 1 (by decide) (p.x.tmod 1 + 1) (by omega)
 have t3 := tmb 3 (by decide) p.nn
 have t4 := tmp 3 (by decide) (p.nn.tmod 3 + 3) (by omega)
 have t5 := tmp 16 (by decide) (p.f.cnt + 1) (by omega)
 refine mI (by decide) (mI (by simp only [InR]; omega) (mI (by decide) ?_))
 refine iI (fun hc1 => ?_) (fun hc1 => ?_)
 refine mI (by simp only [InR]; omega) (mI (by decide) (mI (by simp only [InR]; omega) ?_))
 refine callPR (⟨p.f.s0.l, p.f.s0.com, p.f.s0.sh, p.f.c0, Int.tmod (p.f.cnt + (1 : Int)) (16 : Int)⟩ : A_add1) rfl (by (try dsimp only [pre_add1]); omega) fun r1 hi2 => ?_
 dsimp only [po_add1] at hi2
 exact fin_step1 hK ⟨⟨⟨r1.l, r1.com, p.f.s0.sh⟩, r1.c0, p.f.fly, p.f.cnt + (1 : Int)⟩⟩ (by dsimp only [po_step1] <;> (refine ⟨?_, by omega, by omega⟩; first | (exfalso; omega) | exact tr_add (maj := 1) hinv (by simp) (by assumption)))
 refine iI (fun hc3 => ?_) (fun hc3 => ?_)
 refine iI (fun hc4 => ?_) (fun hc4 => ?_)
 refine iI (fun hc5 => ?_) (fun hc5 => ?_)
 refine mI (by decide) (mI (by simp only [InR]; omega) (mI (by decide) (mI (by simp only [InR]; omega) (mI (by simp only [InR]; omega) (mI (rfl) ?_)))))
 refine callPR (⟨p.f.s0.l, p.f.s0.com, p.f.s0.sh, p.f.c0, Int.tmod ((Int.tmod p.x (1 : Int)) + (1 : Int)) (1 : Int), (1 : Int) + (Int.tmod ((Int.tmod p.nn (3 : Int)) + (3 : Int)) (3 : Int))⟩ : A_since1) rfl (by (try dsimp only [pre_since1]); omega) fun r2 hi6 => ?_
 dsimp only [po_since1] at hi6
 refine mI (rfl) (mI (rfl) (mI (rfl) ?_))
 refine exB_mk [⟨Int.tmod ((Int.tmod p.x (1 : Int)) + (1 : Int)) (1 : Int), r2.fr, p.f.s0.com, r2.h, r2.o⟩] ?_
 refine mI ((rows4 (.inl rfl) (.inl rfl) (.inl rfl) (.inl rfl))) (mI (by simp [limP]; omega) ?_)
 exact fin_step1 hK ⟨⟨⟨p.f.s0.l, p.f.s0.com, p.f.s0.sh⟩, p.f.c0, p.f.fly ++ [⟨Int.tmod ((Int.tmod p.x (1 : Int)) + (1 : Int)) (1 : Int), r2.fr, p.f.s0.com, r2.h, r2.o⟩], p.f.cnt⟩⟩ (by dsimp only [po_step1] <;> (refine ⟨?_, by omega, by omega⟩; first | (exfalso; omega) | exact ⟨tr_since (m := 1) hinv (by omega) (by simp) (by omega) (by assumption), Frz.refl _⟩))
 refine callPR (⟨p.f, p.k, p.x, p.nn, p.i, Int.tmod ((Int.tmod p.x (1 : Int)) + (1 : Int)) (1 : Int), (p.f.fly.length : Int)⟩ : A_mid1) rfl (by (try dsimp only [pre_mid1]); exact ⟨hinv, by omega, by omega, by omega, by omega, by omega⟩) fun r3 hi7 => ?_
 dsimp only [po_mid1] at hi7
 exact fin_step1 hK ⟨r3.f⟩ (by dsimp only [po_step1] <;> (refine ⟨?_, by omega, by omega⟩; first | (exfalso; omega) | exact hi7.1))
 refine callPR (⟨p.f, p.k, p.x, p.nn, p.i, Int.tmod ((Int.tmod p.x (1 : Int)) + (1 : Int)) (1 : Int), (p.f.fly.length : Int)⟩ : A_mid1) rfl (by (try dsimp only [pre_mid1]); exact ⟨hinv, by omega, by omega, by omega, by omega, by omega⟩) fun r4 hi8 => ?_
 dsimp only [po_mid1] at hi8
 exact fin_step1 hK ⟨r4.f⟩ (by dsimp only [po_step1] <;> (refine ⟨?_, by omega, by omega⟩; first | (exfalso; omega) | exact hi8.1))
 refine callPR (⟨p.f, p.k, p.x, p.nn, p.i, Int.tmod ((Int.tmod p.x (1 : Int)) + (1 : Int)) (1 : Int), (p.f.fly.length : Int)⟩ : A_mid1) rfl (by (try dsimp only [pre_mid1]); exact ⟨hinv, by omega, by omega, by omega, by omega, by omega⟩) fun r5 hi9 => ?_
 dsimp only [po_mid1] at hi9
 exact fin_step1 hK ⟨r5.f⟩ (by dsimp only [po_step1] <;> (refine ⟨?_, by omega, by omega⟩; first | (exfalso; omega) | exact hi9.1))
noncomputable def ec_step1 : SpecE := tstE (elB 1 1) (esOf I_step1 (spP pre_step1 out_step1)) (fun _ _ _ _ => false)
theorem nc_step1 : NatE Try.prog 28 1 ec_step1 := tstE_ok (natE_said (f := 28) (k := 1) (lp := lp_step1) (lf := 600) tb_mix (cfT_ok nat_come1_ok) ft_step1_ok (by rfl) (fun b j x h => (mem_step lo_mid1 (fun h => (by cases h)) h)) fun p K h => vf_step1 p K (mustP_ok h).1 (mustP_ok h).2) natE_no
noncomputable def nat_step1 := natC nat_come1 1 ec_step1 28 [(0, 4), (1, 15)]
theorem nat_step1_ok : NatsOk Try.prog nat_step1 := natC_ok nc_step1 nat_come1_ok
def ft_come2 : XF := ft_come1
theorem ft_come2_ok : chkF Try.prog 41 ft_come2 = true := ft_come1_ok
structure A_come2 where
 f : F2
 t : Told
structure R_come2 where
 f : F2
def po_come2 (p : A_come2) (r : R_come2) : Prop := (FI2 r.f ∧ Fr2 p.f r.f) ∧ r.f.cnt = p.f.cnt
noncomputable def I_come2 (p : A_come2) : IE := ([.ptr 0 0, .agg [.sy (.int 0 p.t.to), .sy (.int 0 p.t.fr), .sy (.int 0 p.t.c), .sy (.imm p.t.h 18 Int p.t.l encK)]], (Fd2n p.f), 11)
noncomputable def out_come2 (p : A_come2) (K : KE) : Bool := allB fun r : R_come2 => iP (po_come2 p r) (K (.tup []) (Fd2n r.f) 11) true
def pre_come2 (p : A_come2) : Prop := FI2 p.f ∧ MsgOk p.f.s0 [p.f.s1] p.t
theorem fin_come2 {p : A_come2} {K : KE} (hK : out_come2 p K = true) (r : R_come2) (h : po_come2 p r) : K (.tup []) (Fd2n r.f) 11 = true := ifB_use h (allB_ok hK r)
theorem vf_come2 (p : A_come2) (K : KE) (hpre : pre_come2 p) (hK : out_come2 p K = true) : (funE 1 (cfT nat_step1) noLp 600 ft_come2 (I_come2 p).1 (I_come2 p).2.1 (I_come2 p).2.2 K) = true := by
 refine Eq.trans (b := (iP (p.t.to = (0 : Int)) (mP (InR 1 p.t.c) (mP (((.int 0 p.t.fr) : SY) = (.int 0 p.t.fr)) (useC (([.ptr 0 0, .agg [.sy (.int 1 p.t.c), .int 2 (.ofNat 1)], .sy (.int 0 p.t.fr)], (Ro2n p.f.s0.l p.f.s0.com p.f.s0.sh p.f.c0 p.f.c1), 4)) I_ack2 pre_ack2 po_ack2 fun p1 r1 => K (.tup []) (Fd2n ⟨⟨p1.l, r1.com, p1.sh⟩, p.f.s1, r1.c0, r1.c1, p.f.fly, p.f.cnt⟩) 11))) (iP (p.t.to = 0) (exB fun p3 : A_take2 => mP (([.ptr 0 0, .sy (.int 0 p.t.fr), .sy (.imm p.t.h 18 Int p.t.l encK), .sy (.int 0 p.t.c)], (Ro2n p.f.s0.l p.f.s0.com p.f.s0.sh p.f.c0 p.f.c1), 4) = I_take2 p3) (mP (pre_take2 p3) (allB fun r3 : R_take2 => iP (po_take2 p3 r3) (K (.tup []) (.node (.node (.node (.node .leaf (some (.map [(.agg [.int 1 (.ofNat 0), .int 2 (.ofNat 1)], .sy (.int 0 p3.c0), 0), (.agg [.int 1 (.ofNat 1), .int 2 (.ofNat 1)], .sy (.int 0 p3.c1), 1)] 2)) .leaf) (some (.blk false 67 10 [[.int 1 (.ofNat 0), .int 3 (.ofNat 1), .sl 5 0 2 (.rest 0), .sy (.int 1 p3.me), .int 2 (.ofNat 1), .sy (.prow 6 r3.l.length), .int 0 (.ofNat 0), .sy (.int 0 r3.com), .sy (.bool p3.sh), .map 7]])) .leaf) (some (.blk true 22 1 [[.ptr 3 0], [.ptr 4 0]])) (.node (.node .leaf (some (.prow 45 18 Int p.f.s1.l encK)) .leaf) (some (.blk true 31 2 [[.int 1 (.ofNat 0), .int 2 (.ofNat 1)], [.int 1 (.ofNat 1), .int 2 (.ofNat 1)]])) .leaf)) (some (.blk false 81 3 [[.sl 1 0 2 (.rest 0), .sy (.prow 2 p.f.fly.length), .sy (.int 0 p.f.cnt)]])) (.node (.node (.node .leaf (some (.blk true 31 2 [[.int 1 (.ofNat 0), .int 2 (.ofNat 1)], [.int 1 (.ofNat 1), .int 2 (.ofNat 1)]])) .leaf) (some (.blk false 67 10 [[.int 1 (.ofNat 0), .int 3 (.ofNat 1), .sl 8 0 2 (.rest 0), .sy (.int 1 1), .int 2 (.ofNat 1), .sy (.prow 9 p.f.s1.l.length), .int 0 (.ofNat 0), .sy (.int 0 p.f.s1.com), .sy (.bool p.f.s1.sh), .map 10]])) .leaf) (some (.prow 100 4 Told p.f.fly encT)) (.node (.node .leaf (some (.map [(.agg [.int 1 (.ofNat 0), .int 2 (.ofNat 1)], .sy (.int 0 0), 0), (.agg [.int 1 (.ofNat 1), .int 2 (.ofNat 1)], .sy (.int 0 0), 1)] 2)) .leaf) (some (.prow 45 18 Int r3.l encK)) .leaf))) 11) true))) (iP (p.t.to = 1) (useC (([.ptr 0 0, .sy (.int 0 p.t.fr), .sy (.imm p.t.h 18 Int p.t.l encK), .sy (.int 0 p.t.c)], (Rm2n p.f.s1.l p.f.s1.com p.f.s1.sh 0 0 1), 4)) I_take2 pre_take2 po_take2 fun p2 r2 => K (.tup []) (Fg2 ({ p.f with s1 := ⟨r2.l, r2.com, p2.sh⟩ } : F2) p2.me p2.c0 p2.c1 p.f.fly.length p.f.s0.l.length r2.l.length) 11) (mP (False) (true)))))) (by kernel_rfl) ?_
 dsimp only [pre_come2] at hpre
 obtain ⟨hinv, hm⟩ := hpre
 have hinv : FInv p.f.s0 _ _ p.f.fly := hinv
 obtain ⟨hs, hfew, f0, f1⟩ := fact2 hinv
 have hm2 := hm.flat hs
 simp only [List.length_cons, List.length_nil, List.length_singleton] at hm2
 refine iI (fun hc1 => ?_) (fun hc1 => ?_)
 refine mI (by simp only [InR]; omega) (mI (rfl) ?_)
 refine callPR (⟨p.f.s0.l, p.f.s0.com, p.f.s0.sh, p.f.c0, p.f.c1, p.t.c, p.t.fr⟩ : A_ack2) rfl (by (try dsimp only [pre_ack2]); omega) fun r1 hi2 => ?_
 dsimp only [po_ack2] at hi2
 exact fin_come2 hK ⟨⟨⟨p.f.s0.l, r1.com, p.f.s0.sh⟩, p.f.s1, r1.c0, r1.c1, p.f.fly, p.f.cnt⟩⟩ (by dsimp only [po_come2] <;> (first | (exfalso; omega) | exact ⟨tr_ack (maj := 2) (m := 2) hinv (by simp) (by simp) hm (by assumption) (by assumption), rfl⟩))
 refine iI (fun hc3 => ?_) (fun hc3 => ?_)
 exfalso; omega
 refine iI (fun hc4 => ?_) (fun hc4 => ?_)
 refine callPR (⟨p.f.s1.l, p.f.s1.com, p.f.s1.sh, (0 : Int), (0 : Int), (1 : Int), p.t.fr, p.t.h, p.t.l, p.t.c⟩ : A_take2) rfl (by (try dsimp only [pre_take2]); omega) fun r2 hi5 => ?_
 dsimp only [po_take2] at hi5
 exact fin_come2 hK ⟨({ p.f with s1 := ⟨r2.l, r2.com, p.f.s1.sh⟩ } : F2)⟩ (by dsimp only [po_come2] <;> (first | (exfalso; omega) | exact ⟨tr_take (i := 0) hinv rfl hm (by assumption) (by assumption), rfl⟩))
 refine mI (by omega) ?_
 rfl
noncomputable def ec_come2 : SpecE := tstE (elB 1 2) (esOf I_come2 (spP pre_come2 out_come2)) ec_come1
theorem nc_come2 : NatE Try.prog 41 1 ec_come2 := tstE_ok (natE_pl (f := 41) (k := 1) (cfT_ok nat_step1_ok) ft_come2_ok (by rfl) (by rfl) vf_come2) nc_come1
noncomputable def nat_come2 := natC nat_step1 1 ec_come2 41 [(0, 4), (1, 15)]
theorem nat_come2_ok : NatsOk Try.prog nat_come2 := natC_ok nc_come2 nat_step1_ok
def ft_step2 : XF := ft_step1
theorem ft_step2_ok : chkF Try.prog 28 ft_step2 = true := ft_step1_ok
structure A_rest2 where
 f : F2
 k : Int
 x : Int
 nn : Int
 i : Int
 y : Int
 kk : Int
structure R_rest2 where
 f : F2
def po_rest2 (p : A_rest2) (r : R_rest2) : Prop := (FI2 r.f ∧ Fr2 p.f r.f) ∧ r.f.cnt = p.f.cnt
noncomputable def I_rest2 (p : A_rest2) : IL := ((.cons 5 (.sy (.int 0 p.kk)) (.cons 4 (.sy (.int 0 p.y)) (.cons 3 (.ptr 1 0) (.cons 0 (.ptr 0 0) .nil)))), (Fb2n p.f p.k p.x p.nn p.i), 12)
noncomputable def out_rest2 (p : A_rest2) (K : KC) : Bool := allB fun r : R_rest2 => iP (po_rest2 p r) (K 0 .nil (Fd2n r.f) 11) true
def pre_rest2 (p : A_rest2) : Prop := FI2 p.f ∧ 0 ≤ p.f.cnt ∧ p.f.cnt ≤ 1000000 ∧ 0 ≤ p.y ∧ p.y < 2 ∧ p.kk = (p.f.fly.length : Int)
theorem fin_rest2 {p : A_rest2} {K : KC} (hK : out_rest2 p K = true) (r : R_rest2) (h : po_rest2 p r) : K 0 .nil (Fd2n r.f) 11 = true := ifB_use h (allB_ok hK r)
noncomputable def sp_rest2 (p : A_rest2) (K : KC) : Bool := must (prB (pre_rest2 p)) (out_rest2 p K)
structure A_mid2 where
 f : F2
 k : Int
 x : Int
 nn : Int
 i : Int
 y : Int
 kk : Int
structure R_mid2 where
 f : F2
def po_mid2 (p : A_mid2) (r : R_mid2) : Prop := (FI2 r.f ∧ Fr2 p.f r.f) ∧ r.f.cnt = p.f.cnt
noncomputable def I_mid2 (p : A_mid2) : IL := ((.cons 5 (.sy (.int 0 p.kk)) (.cons 4 (.sy (.int 0 p.y)) (.cons 3 (.ptr 1 0) (.cons 0 (.ptr 0 0) .nil)))), (Fb2n p.f p.k p.x p.nn p.i), 12)
noncomputable def out_mid2 (p : A_mid2) (K : KC) : Bool := allB fun r : R_mid2 => iP (po_mid2 p r) (K 0 .nil (Fd2n r.f) 11) true
def pre_mid2 (p : A_mid2) : Prop := FI2 p.f ∧ 0 ≤ p.f.cnt ∧ p.f.cnt ≤ 1000000 ∧ 0 ≤ p.y ∧ p.y < 2 ∧ p.kk = (p.f.fly.length : Int)
theorem fin_mid2 {p : A_mid2} {K : KC} (hK : out_mid2 p K = true) (r : R_mid2) (h : po_mid2 p r) : K 0 .nil (Fd2n r.f) 11 = true := ifB_use h (allB_ok hK r)
noncomputable def sp_mid2 (p : A_mid2) (K : KC) : Bool := must (prB (pre_mid2 p)) (out_mid2 p K)
noncomputable def lp_step2 : LpF := fun j S M nx K => (Bool.rec ((Bool.rec (false) (exB fun p : A_mid2 => must (prB ((S, M, nx) = I_mid2 p)) (sp_mid2 p K)) (Nat.beq j 1))) (exB fun p : A_rest2 => must (prB ((S, M, nx) = I_rest2 p)) (sp_rest2 p K)) (Nat.beq j 0))
def bd_rest2 : XC := bd_rest1
theorem vb_rest2 (p : A_rest2) (K : KC) (hpre : pre_rest2 p) (hK : out_rest2 p K = true) : (codeX (cfT nat_come2) lp_step2 600 bd_rest2 (I_rest2 p).1 (I_rest2 p).2.1 (I_rest2 p).2.2 K) = true := by
 refine Eq.trans (b := (let y0 : Int := (Int.tmod ((Int.tmod p.i p.kk) + p.kk) p.kk); iP (p.k = (7 : Int)) (iP (p.y = 0) (K 0 .nil (Fd2n ({ p.f with s0 := ({ p.f.s0 with sh := true = true } : Rl) } : F2)) 11) (iP (p.y = 1) (K 0 .nil (Fd2n ({ p.f with s1 := ({ p.f.s1 with sh := true = true } : Rl) } : F2)) 11) (mP (False) (true)))) (iP ((3 : Int) ≤ p.k) (iP ((0 : Int) < p.kk) (mP (p.kk ≠ 0) (mP (InR 0 ((Int.tmod p.i p.kk) + p.kk)) (mP (p.kk ≠ 0) (mP (0 ≤ y0 ∧ y0 < (p.f.fly.length : Int)) (mP ((y0.toNat) < p.f.fly.length) (allB fun x1 : Told => iP (p.f.fly[y0.toNat]? = some x1) (iP (¬ p.k = (5 : Int)) (mP (p.f.fly.length = p.f.fly.length ∧ 0 ≤ (0 : Int) ∧ (0 : Int) ≤ y0 ∧ y0 ≤ (p.f.fly.length : Int)) (mP (InR 0 (y0 + (1 : Int))) (mP (p.f.fly.length = p.f.fly.length ∧ 0 ≤ (y0 + (1 : Int)) ∧ (y0 + (1 : Int)) ≤ (p.f.fly.length : Int) ∧ (p.f.fly.length : Int) ≤ (p.f.fly.length : Int)) (mP (((.prow 3 p.f.fly.length) : SY) = (.prow 3 p.f.fly.length)) (mP (p.f.fly.length = p.f.fly.length ∧ 0 ≤ (0 : Int) ∧ (0 : Int) ≤ y0 ∧ y0 ≤ (p.f.fly.length : Int)) (mP (((.psub 3 4 0 ((y0.toNat) - 0)) : SY) = (.psub 3 4 0 ((y0.toNat) - 0))) (mP (((.prow 3 p.f.fly.length) : SY) = (.prow 3 p.f.fly.length)) (mP (p.f.fly.length = p.f.fly.length ∧ 0 ≤ (y0 + (1 : Int)) ∧ (y0 + (1 : Int)) ≤ (p.f.fly.length : Int) ∧ (p.f.fly.length : Int) ≤ (p.f.fly.length : Int)) (mP (((.psub 3 4 ((y0 + (1 : Int)).toNat) (p.f.fly.length - ((y0 + (1 : Int)).toNat))) : SY) = (.psub 3 4 ((y0 + (1 : Int)).toNat) (p.f.fly.length - ((y0 + (1 : Int)).toNat)))) (mP (0 + ((y0.toNat) - 0) ≤ p.f.fly.length) (iP (((p.f.fly.drop 0).take ((y0.toNat) - 0)) = []) (mP (((.prow 3 p.f.fly.length) : SY) = (.prow 3 p.f.fly.length)) (mP (p.f.fly.length = p.f.fly.length ∧ 0 ≤ (y0 + (1 : Int)) ∧ (y0 + (1 : Int)) ≤ (p.f.fly.length : Int) ∧ (p.f.fly.length : Int) ≤ (p.f.fly.length : Int)) (mP (((.psub 3 4 ((y0 + (1 : Int)).toNat) (p.f.fly.length - ((y0 + (1 : Int)).toNat))) : SY) = (.psub 3 4 ((y0 + (1 : Int)).toNat) (p.f.fly.length - ((y0 + (1 : Int)).toNat)))) (mP (((y0 + (1 : Int)).toNat) + (p.f.fly.length - ((y0 + (1 : Int)).toNat)) ≤ p.f.fly.length) (iP (((p.f.fly.drop ((y0 + (1 : Int)).toNat)).take (p.f.fly.length - ((y0 + (1 : Int)).toNat))) = []) (mP ((.sl 13 0 0 (.ex 0) : AV) = (.sl 13 0 0 (.ex 0) : AV)) (iP (¬ p.k = (6 : Int)) (useC (([.ptr 0 0, .agg [.sy (.int 0 x1.to), .sy (.int 0 x1.fr), .sy (.int 0 x1.c), .sy (.imm x1.h 18 Int x1.l encK)]], (Fd2 ({ p.f with fly := ([] : List Told) } : F2) 0 p.f.s0.l.length p.f.s1.l.length), 11)) I_come2 pre_come2 po_come2 fun p1 r1 => K 0 .nil (Fd2n r1.f) 11) (K 0 .nil (Fd2 ({ p.f with fly := ([] : List Told) } : F2) 0 p.f.s0.l.length p.f.s1.l.length) 11))) (mP (limP 48 ((p.f.fly.drop ((y0 + (1 : Int)).toNat)).take (p.f.fly.length - ((y0 + (1 : Int)).toNat))).length) (iP (¬ p.k = (6 : Int)) (useC (([.ptr 0 0, .agg [.sy (.int 0 x1.to), .sy (.int 0 x1.fr), .sy (.int 0 x1.c), .sy (.imm x1.h 18 Int x1.l encK)]], (Fd2 ({ p.f with fly := (p.f.fly.drop ((y0 + (1 : Int)).toNat)).take (p.f.fly.length - ((y0 + (1 : Int)).toNat)) } : F2) (((p.f.fly.drop ((y0 + (1 : Int)).toNat)).take (p.f.fly.length - ((y0 + (1 : Int)).toNat))).length) p.f.s0.l.length p.f.s1.l.length), 11)) I_come2 pre_come2 po_come2 fun p2 r2 => K 0 .nil (Fd2n r2.f) 11) (K 0 .nil (Fd2 ({ p.f with fly := (p.f.fly.drop ((y0 + (1 : Int)).toNat)).take (p.f.fly.length - ((y0 + (1 : Int)).toNat)) } : F2) (((p.f.fly.drop ((y0 + (1 : Int)).toNat)).take (p.f.fly.length - ((y0 + (1 : Int)).toNat))).length) p.f.s0.l.length p.f.s1.l.length) 11)))))))) (mP (limP 48 ((p.f.fly.drop 0).take ((y0.toNat) - 0)).length) (mP (((.prow 3 p.f.fly.length) : SY) = (.prow 3 p.f.fly.length)) (mP (p.f.fly.length = p.f.fly.length ∧ 0 ≤ (y0 + (1 : Int)) ∧ (y0 + (1 : Int)) ≤ (p.f.fly.length : Int) ∧ (p.f.fly.length : Int) ≤ (p.f.fly.length : Int)) (mP (((.psub 3 4 ((y0 + (1 : Int)).toNat) (p.f.fly.length - ((y0 + (1 : Int)).toNat))) : SY) = (.psub 3 4 ((y0 + (1 : Int)).toNat) (p.f.fly.length - ((y0 + (1 : Int)).toNat)))) (mP (((y0 + (1 : Int)).toNat) + (p.f.fly.length - ((y0 + (1 : Int)).toNat)) ≤ p.f.fly.length) (mP ((((p.f.fly.drop 0).take ((y0.toNat) - 0)).length) = ((p.f.fly.drop 0).take ((y0.toNat) - 0)).length) (iP (((p.f.fly.drop ((y0 + (1 : Int)).toNat)).take (p.f.fly.length - ((y0 + (1 : Int)).toNat))) = []) (iP (¬ p.k = (6 : Int)) (useC (([.ptr 0 0, .agg [.sy (.int 0 x1.to), .sy (.int 0 x1.fr), .sy (.int 0 x1.c), .sy (.imm x1.h 18 Int x1.l encK)]], (Fd2 ({ p.f with fly := (p.f.fly.drop 0).take ((y0.toNat) - 0) } : F2) (((p.f.fly.drop 0).take ((y0.toNat) - 0)).length) p.f.s0.l.length p.f.s1.l.length), 11)) I_come2 pre_come2 po_come2 fun p4 r4 => K 0 .nil (Fd2n r4.f) 11) (K 0 .nil (Fd2 ({ p.f with fly := (p.f.fly.drop 0).take ((y0.toNat) - 0) } : F2) (((p.f.fly.drop 0).take ((y0.toNat) - 0)).length) p.f.s0.l.length p.f.s1.l.length) 11)) (exB fun m1 : List Told => mP (rowsR (m1.map encT) (((p.f.fly.drop ((y0 + (1 : Int)).toNat)).take (p.f.fly.length - ((y0 + (1 : Int)).toNat))).map encT)) (mP (limP 48 (((p.f.fly.drop 0).take ((y0.toNat) - 0)).length + m1.length)) (iP (¬ p.k = (6 : Int)) (useC (([.ptr 0 0, .agg [.sy (.int 0 x1.to), .sy (.int 0 x1.fr), .sy (.int 0 x1.c), .sy (.imm x1.h 18 Int x1.l encK)]], (Fd2 ({ p.f with fly := ((p.f.fly.drop 0).take ((y0.toNat) - 0)) ++ m1 } : F2) ((((p.f.fly.drop 0).take ((y0.toNat) - 0)) ++ m1).length) p.f.s0.l.length p.f.s1.l.length), 11)) I_come2 pre_come2 po_come2 fun p3 r3 => K 0 .nil (Fd2n r3.f) 11) (K 0 .nil (Fd2 ({ p.f with fly := ((p.f.fly.drop 0).take ((y0.toNat) - 0)) ++ m1 } : F2) ((((p.f.fly.drop 0).take ((y0.toNat) - 0)) ++ m1).length) p.f.s0.l.length p.f.s1.l.length) 11)))))))))))))))))))))) (iP (¬ p.k = (6 : Int)) (useC (([.ptr 0 0, .agg [.sy (.int 0 x1.to), .sy (.int 0 x1.fr), .sy (.int 0 x1.c), .sy (.imm x1.h 18 Int x1.l encK)]], (Fd2n p.f), 11)) I_come2 pre_come2 po_come2 fun p5 r5 => K 0 .nil (Fd2n r5.f) 11) (K 0 .nil (Fd2n p.f) 11))) true)))))) (K 0 .nil (Fd2n p.f) 11)) (K 0 .nil (Fd2n p.f) 11)))) (by kernel_rfl) ?_
 dsimp only [pre_rest2] at hpre
 obtain ⟨hinv, k1, k2, k3, k4, k5⟩ := hpre
 have hinv : FInv p.f.s0 _ _ p.f.fly := hinv
 obtain ⟨hs, hfew, f0, f1⟩ := fact2 hinv
 have t6 := tmk p.kk p.i
 have t7 := tmk2 p.kk p.i
 refine iI (fun hc1 => ?_) (fun hc1 => ?_)
 refine iI (fun hc2 => ?_) (fun hc2 => ?_)
 exact fin_rest2 hK ⟨({ p.f with s0 := ({ p.f.s0 with sh := true = true } : Rl) } : F2)⟩ (by dsimp only [po_rest2] <;> (first | (exfalso; omega) | exact ⟨(by first | exact ⟨tr_shut hinv _, frz_shut rfl⟩), by first | rfl | exact hi0.2⟩))
 refine iI (fun hc3 => ?_) (fun hc3 => ?_)
 exact fin_rest2 hK ⟨({ p.f with s1 := ({ p.f.s1 with sh := true = true } : Rl) } : F2)⟩ (by dsimp only [po_rest2] <;> (first | (exfalso; omega) | exact ⟨(by first | exact ⟨tr_shutO (i := 0) hinv rfl _, frz_other (i := 0) rfl fun _ => ⟨rfl, rfl⟩⟩), by first | rfl | exact hi0.2⟩))
 refine mI (by omega) ?_
 rfl
 refine iI (fun hc4 => ?_) (fun hc4 => ?_)
 refine iI (fun hc5 => ?_) (fun hc5 => ?_)
 refine mI (by omega) (mI (by simp only [InR]; omega) (mI (by omega) (mI (by first | omega | (constructor <;> omega)) (mI (by omega) ?_))))
 refine allB_mk (fun x1 => ?_)
 refine iI (fun hi6 => ?_) (fun _ => rfl)
 have hm := hinv.msgs x1 (List.mem_of_getElem? (by assumption))
 refine iI (fun hc7 => ?_) (fun hc7 => ?_)
 refine mI (by first | omega | (simp; omega)) (mI (by simp only [InR]; omega) (mI (by first | omega | (simp; omega)) (mI (rfl) (mI (by first | omega | (simp; omega)) (mI (rfl) (mI (rfl) (mI (by first | omega | (simp; omega)) (mI (rfl) (mI (by (first | omega | (simp [limP] <;> omega))) ?_)))))))))
 refine iI (fun hc8 => ?_) (fun hc8 => ?_)
 have hc8l : (((p.f.fly.drop 0).take (((Int.tmod ((Int.tmod p.i p.kk) + p.kk) p.kk).toNat) - 0))).length = 0 := (by rw [hc8]; rfl)
 refine mI (rfl) (mI (by first | omega | (simp; omega)) (mI (rfl) (mI (by (first | omega | (simp [limP] <;> omega))) ?_)))
 refine iI (fun hc9 => ?_) (fun hc9 => ?_)
 have hc9l : (((p.f.fly.drop (((Int.tmod ((Int.tmod p.i p.kk) + p.kk) p.kk) + (1 : Int)).toNat)).take (p.f.fly.length - (((Int.tmod ((Int.tmod p.i p.kk) + p.kk) p.kk) + (1 : Int)).toNat)))).length = 0 := (by rw [hc9]; rfl)
 refine mI (rfl) ?_
 refine iI (fun hc10 => ?_) (fun hc10 => ?_)
 refine callPR (⟨({ p.f with fly := ([] : List Told) } : F2), x1⟩ : A_come2) rfl (by (try dsimp only [pre_come2]); exact ⟨(hinv.sub (fun _ h => by simp at h) (by simp)), hm⟩) fun r1 hi11 => ?_
 dsimp only [po_come2] at hi11
 exact fin_rest2 hK ⟨r1.f⟩ (by dsimp only [po_rest2] <;> (first | (exfalso; omega) | exact ⟨(by first | exact hi11.1), by first | rfl | exact hi11.2⟩))
 exact fin_rest2 hK ⟨({ p.f with fly := ([] : List Told) } : F2)⟩ (by dsimp only [po_rest2] <;> (first | (exfalso; omega) | exact ⟨(by first | exact ⟨(hinv.sub (fun _ h => by simp at h) (by simp)), Frz.refl _⟩), by first | rfl | exact hi6.2⟩))
 have hc9l : 0 < (((p.f.fly.drop (((Int.tmod ((Int.tmod p.i p.kk) + p.kk) p.kk) + (1 : Int)).toNat)).take (p.f.fly.length - (((Int.tmod ((Int.tmod p.i p.kk) + p.kk) p.kk) + (1 : Int)).toNat)))).length := List.length_pos_iff.2 hc9
 refine mI (by simp [limP]; omega) ?_
 refine iI (fun hc12 => ?_) (fun hc12 => ?_)
 refine callPR (⟨({ p.f with fly := (p.f.fly.drop (((Int.tmod ((Int.tmod p.i p.kk) + p.kk) p.kk) + (1 : Int)).toNat)).take (p.f.fly.length - (((Int.tmod ((Int.tmod p.i p.kk) + p.kk) p.kk) + (1 : Int)).toNat)) } : F2), x1⟩ : A_come2) rfl (by (try dsimp only [pre_come2]); exact ⟨(hinv.sub sub_one (by simp; omega)), hm⟩) fun r2 hi13 => ?_
 dsimp only [po_come2] at hi13
 exact fin_rest2 hK ⟨r2.f⟩ (by dsimp only [po_rest2] <;> (first | (exfalso; omega) | exact ⟨(by first | exact hi13.1), by first | rfl | exact hi13.2⟩))
 exact fin_rest2 hK ⟨({ p.f with fly := (p.f.fly.drop (((Int.tmod ((Int.tmod p.i p.kk) + p.kk) p.kk) + (1 : Int)).toNat)).take (p.f.fly.length - (((Int.tmod ((Int.tmod p.i p.kk) + p.kk) p.kk) + (1 : Int)).toNat)) } : F2)⟩ (by dsimp only [po_rest2] <;> (first | (exfalso; omega) | exact ⟨(by first | exact ⟨(hinv.sub sub_one (by simp; omega)), Frz.refl _⟩), by first | rfl | exact hi6.2⟩))
 have hc8l : 0 < (((p.f.fly.drop 0).take (((Int.tmod ((Int.tmod p.i p.kk) + p.kk) p.kk).toNat) - 0))).length := List.length_pos_iff.2 hc8
 refine mI (by simp [limP]; omega) (mI (rfl) (mI (by first | omega | (simp; omega)) (mI (rfl) (mI (by (first | omega | (simp [limP] <;> omega))) (mI (rfl) ?_)))))
 refine iI (fun hc14 => ?_) (fun hc14 => ?_)
 have hc14l : (((p.f.fly.drop (((Int.tmod ((Int.tmod p.i p.kk) + p.kk) p.kk) + (1 : Int)).toNat)).take (p.f.fly.length - (((Int.tmod ((Int.tmod p.i p.kk) + p.kk) p.kk) + (1 : Int)).toNat)))).length = 0 := (by rw [hc14]; rfl)
 refine iI (fun hc15 => ?_) (fun hc15 => ?_)
 refine callPR (⟨({ p.f with fly := (p.f.fly.drop 0).take (((Int.tmod ((Int.tmod p.i p.kk) + p.kk) p.kk).toNat) - 0) } : F2), x1⟩ : A_come2) rfl (by (try dsimp only [pre_come2]); exact ⟨(hinv.sub sub_one (by simp; omega)), hm⟩) fun r4 hi16 => ?_
 dsimp only [po_come2] at hi16
 exact fin_rest2 hK ⟨r4.f⟩ (by dsimp only [po_rest2] <;> (first | (exfalso; omega) | exact ⟨(by first | exact hi16.1), by first | rfl | exact hi16.2⟩))
 exact fin_rest2 hK ⟨({ p.f with fly := (p.f.fly.drop 0).take (((Int.tmod ((Int.tmod p.i p.kk) + p.kk) p.kk).toNat) - 0) } : F2)⟩ (by dsimp only [po_rest2] <;> (first | (exfalso; omega) | exact ⟨(by first | exact ⟨(hinv.sub sub_one (by simp; omega)), Frz.refl _⟩), by first | rfl | exact hi6.2⟩))
 have hc14l : 0 < (((p.f.fly.drop (((Int.tmod ((Int.tmod p.i p.kk) + p.kk) p.kk) + (1 : Int)).toNat)).take (p.f.fly.length - (((Int.tmod ((Int.tmod p.i p.kk) + p.kk) p.kk) + (1 : Int)).toNat)))).length := List.length_pos_iff.2 hc14
 refine exB_mk ((p.f.fly.drop (((Int.tmod ((Int.tmod p.i p.kk) + p.kk) p.kk) + (1 : Int)).toNat)).take (p.f.fly.length - (((Int.tmod ((Int.tmod p.i p.kk) + p.kk) p.kk) + (1 : Int)).toNat))) ?_
 refine mI (show rowsR (((p.f.fly.drop (((Int.tmod ((Int.tmod p.i p.kk) + p.kk) p.kk) + (1 : Int)).toNat)).take (p.f.fly.length - (((Int.tmod ((Int.tmod p.i p.kk) + p.kk) p.kk) + (1 : Int)).toNat))).map encT) (((p.f.fly.drop (((Int.tmod ((Int.tmod p.i p.kk) + p.kk) p.kk) + (1 : Int)).toNat)).take (p.f.fly.length - (((Int.tmod ((Int.tmod p.i p.kk) + p.kk) p.kk) + (1 : Int)).toNat))).map encT) from rowsR_refl _) ?_
 refine mI (by simp [limP]; omega) ?_
 refine iI (fun hc17 => ?_) (fun hc17 => ?_)
 refine callPR (⟨({ p.f with fly := ((p.f.fly.drop 0).take (((Int.tmod ((Int.tmod p.i p.kk) + p.kk) p.kk).toNat) - 0)) ++ ((p.f.fly.drop (((Int.tmod ((Int.tmod p.i p.kk) + p.kk) p.kk) + (1 : Int)).toNat)).take (p.f.fly.length - (((Int.tmod ((Int.tmod p.i p.kk) + p.kk) p.kk) + (1 : Int)).toNat))) } : F2), x1⟩ : A_come2) rfl (by (try dsimp only [pre_come2]); exact ⟨(hinv.sub sub_cut (by simp; omega)), hm⟩) fun r3 hi18 => ?_
 dsimp only [po_come2] at hi18
 exact fin_rest2 hK ⟨r3.f⟩ (by dsimp only [po_rest2] <;> (first | (exfalso; omega) | exact ⟨(by first | exact hi18.1), by first | rfl | exact hi18.2⟩))
 exact fin_rest2 hK ⟨({ p.f with fly := ((p.f.fly.drop 0).take (((Int.tmod ((Int.tmod p.i p.kk) + p.kk) p.kk).toNat) - 0)) ++ ((p.f.fly.drop (((Int.tmod ((Int.tmod p.i p.kk) + p.kk) p.kk) + (1 : Int)).toNat)).take (p.f.fly.length - (((Int.tmod ((Int.tmod p.i p.kk) + p.kk) p.kk) + (1 : Int)).toNat))) } : F2)⟩ (by dsimp only [po_rest2] <;> (first | (exfalso; omega) | exact ⟨(by first | exact ⟨(hinv.sub sub_cut (by simp; omega)), Frz.refl _⟩), by first | rfl | exact hi6.2⟩))
 refine iI (fun hc19 => ?_) (fun hc19 => ?_)
 refine callPR (⟨p.f, x1⟩ : A_come2) rfl (by (try dsimp only [pre_come2]); exact ⟨hinv, hm⟩) fun r5 hi20 => ?_
 dsimp only [po_come2] at hi20
 exact fin_rest2 hK ⟨r5.f⟩ (by dsimp only [po_rest2] <;> (first | (exfalso; omega) | exact ⟨(by first | exact hi20.1), by first | rfl | exact hi20.2⟩))
 exact fin_rest2 hK ⟨p.f⟩ (by dsimp only [po_rest2] <;> (first | (exfalso; omega) | exact ⟨(by first | exact ⟨hinv, Frz.refl _⟩), by first | rfl | exact hi6.2⟩))
 exact fin_rest2 hK ⟨p.f⟩ (by dsimp only [po_rest2] <;> (first | (exfalso; omega) | exact ⟨(by first | exact ⟨hinv, Frz.refl _⟩), by first | rfl | exact hi0.2⟩))
 exact fin_rest2 hK ⟨p.f⟩ (by dsimp only [po_rest2] <;> (first | (exfalso; omega) | exact ⟨(by first | exact ⟨hinv, Frz.refl _⟩), by first | rfl | exact hi0.2⟩))
theorem lo_rest2 : LpOk Try.prog 203 1 lp_step2 false 0 bd_rest2 := by
 refine sp_of (lf := 600) tb_mix (cfT_ok nat_come2_ok) (by rfl) (fun b j x h => by cases h) (fun S M nx K h => ?_)
 obtain ⟨p, h⟩ := exB_ok h
 obtain ⟨e, h9⟩ := mustP_ok h
 clear h
 have e1 : S = (I_rest2 p).1 := congrArg Prod.fst e
 have e2 : M = (I_rest2 p).2.1 := congrArg (fun x => x.2.1) e
 have e3 : nx = (I_rest2 p).2.2 := congrArg (fun x => x.2.2) e
 subst e1; subst e2; subst e3
 exact vb_rest2 p K (mustP_ok h9).1 (mustP_ok h9).2
def bd_mid2 : XC := bd_mid1
theorem vb_mid2 (p : A_mid2) (K : KC) (hpre : pre_mid2 p) (hK : out_mid2 p K = true) : (codeX (cfT nat_come2) lp_step2 600 bd_mid2 (I_mid2 p).1 (I_mid2 p).2.1 (I_mid2 p).2.2 K) = true := by
 refine Eq.trans (b := (iP (p.k = (2 : Int)) (iP ((0 : Int) < p.y) (iP (p.kk < (100 : Int)) (iP (p.y = 0) (mP (((.prow 3 p.f.fly.length) : SY) = (.prow 3 p.f.fly.length)) (mP (((.prow 3 p.f.fly.length) : SY) = (.prow 3 p.f.fly.length)) (mP (p.f.fly.length = p.f.fly.length) (exB fun m2 : List Told => mP (rowsR (m2.map encT) [[.int 0 (.ofNat 0), .sint 0 (p.f.s0.l.length : Int), .sint 0 p.y, .nilS]]) (mP (limP 48 (p.f.fly.length + m2.length)) (K 0 .nil (Fd2 ({ p.f with fly := p.f.fly ++ m2 } : F2) ((p.f.fly ++ m2).length) p.f.s0.l.length p.f.s1.l.length) 11)))))) (iP (p.y = 1) (mP (((.prow 3 p.f.fly.length) : SY) = (.prow 3 p.f.fly.length)) (mP (((.prow 3 p.f.fly.length) : SY) = (.prow 3 p.f.fly.length)) (mP (p.f.fly.length = p.f.fly.length) (exB fun m1 : List Told => mP (rowsR (m1.map encT) [[.int 0 (.ofNat 0), .sint 0 (p.f.s1.l.length : Int), .sint 0 p.y, .nilS]]) (mP (limP 48 (p.f.fly.length + m1.length)) (K 0 .nil (Fd2 ({ p.f with fly := p.f.fly ++ m1 } : F2) ((p.f.fly ++ m1).length) p.f.s0.l.length p.f.s1.l.length) 11)))))) (mP (False) (true)))) (useC (((.cons 5 (.sy (.int 0 p.kk)) (.cons 4 (.sy (.int 0 p.y)) (.cons 3 (.ptr 1 0) (.cons 0 (.ptr 0 0) .nil)))), (Fb2n p.f p.k p.x p.nn p.i), 12)) I_rest2 pre_rest2 po_rest2 fun p1 r1 => K 0 .nil (Fd2n r1.f) 11)) (useC (((.cons 5 (.sy (.int 0 p.kk)) (.cons 4 (.sy (.int 0 p.y)) (.cons 3 (.ptr 1 0) (.cons 0 (.ptr 0 0) .nil)))), (Fb2n p.f p.k p.x p.nn p.i), 12)) I_rest2 pre_rest2 po_rest2 fun p2 r2 => K 0 .nil (Fd2n r2.f) 11)) (useC (((.cons 5 (.sy (.int 0 p.kk)) (.cons 4 (.sy (.int 0 p.y)) (.cons 3 (.ptr 1 0) (.cons 0 (.ptr 0 0) .nil)))), (Fb2n p.f p.k p.x p.nn p.i), 12)) I_rest2 pre_rest2 po_rest2 fun p3 r3 => K 0 .nil (Fd2n r3.f) 11))) (by kernel_rfl) ?_
 dsimp only [pre_mid2] at hpre
 obtain ⟨hinv, k1, k2, k3, k4, k5⟩ := hpre
 have hinv : FInv p.f.s0 _ _ p.f.fly := hinv
 obtain ⟨hs, hfew, f0, f1⟩ := fact2 hinv
 refine iI (fun hc1 => ?_) (fun hc1 => ?_)
 refine iI (fun hc2 => ?_) (fun hc2 => ?_)
 refine iI (fun hc3 => ?_) (fun hc3 => ?_)
 refine iI (fun hc4 => ?_) (fun hc4 => ?_)
 refine mI (rfl) (mI (rfl) (mI (rfl) ?_))
 refine exB_mk [⟨(0 : Int), (p.f.s0.l.length : Int), p.y, (.slice none 0 0), []⟩] ?_
 refine mI ((rows4 (.inr (.inl ⟨_, _, rfl, rfl⟩)) (.inl rfl) (.inl rfl) (.inr (.inr ⟨_, _, _, by decide, rfl, rfl⟩)))) (mI (by simp [limP]; omega) ?_)
 exact fin_mid2 hK ⟨({ p.f with fly := p.f.fly ++ [⟨(0 : Int), (p.f.s0.l.length : Int), p.y, (.slice none 0 0), []⟩] } : F2)⟩ (by dsimp only [po_mid2] <;> (first | (exfalso; omega) | exact ⟨(by first | exact ⟨tr_len (j := 0) hinv (by omega) rfl (by omega) rfl, Frz.refl _⟩ | exact ⟨tr_len (j := 1) hinv (by omega) rfl (by omega) rfl, Frz.refl _⟩), by first | rfl | exact hi0.2⟩))
 refine iI (fun hc5 => ?_) (fun hc5 => ?_)
 refine mI (rfl) (mI (rfl) (mI (rfl) ?_))
 refine exB_mk [⟨(0 : Int), (p.f.s1.l.length : Int), p.y, (.slice none 0 0), []⟩] ?_
 refine mI ((rows4 (.inr (.inl ⟨_, _, rfl, rfl⟩)) (.inl rfl) (.inl rfl) (.inr (.inr ⟨_, _, _, by decide, rfl, rfl⟩)))) (mI (by simp [limP]; omega) ?_)
 exact fin_mid2 hK ⟨({ p.f with fly := p.f.fly ++ [⟨(0 : Int), (p.f.s1.l.length : Int), p.y, (.slice none 0 0), []⟩] } : F2)⟩ (by dsimp only [po_mid2] <;> (first | (exfalso; omega) | exact ⟨(by first | exact ⟨tr_len (j := 0) hinv (by omega) rfl (by omega) rfl, Frz.refl _⟩ | exact ⟨tr_len (j := 1) hinv (by omega) rfl (by omega) rfl, Frz.refl _⟩), by first | rfl | exact hi0.2⟩))
 refine mI (by omega) ?_
 rfl
 refine callPR (⟨p.f, p.k, p.x, p.nn, p.i, p.y, p.kk⟩ : A_rest2) rfl (by (try dsimp only [pre_rest2]); exact ⟨hinv, by omega, by omega, by omega, by omega, by omega⟩) fun r1 hi6 => ?_
 dsimp only [po_rest2] at hi6
 exact fin_mid2 hK ⟨r1.f⟩ (by dsimp only [po_mid2] <;> (first | (exfalso; omega) | exact ⟨(by first | exact hi6.1), by first | rfl | exact hi6.2⟩))
 refine callPR (⟨p.f, p.k, p.x, p.nn, p.i, p.y, p.kk⟩ : A_rest2) rfl (by (try dsimp only [pre_rest2]); exact ⟨hinv, by omega, by omega, by omega, by omega, by omega⟩) fun r2 hi7 => ?_
 dsimp only [po_rest2] at hi7
 exact fin_mid2 hK ⟨r2.f⟩ (by dsimp only [po_mid2] <;> (first | (exfalso; omega) | exact ⟨(by first | exact hi7.1), by first | rfl | exact hi7.2⟩))
 refine callPR (⟨p.f, p.k, p.x, p.nn, p.i, p.y, p.kk⟩ : A_rest2) rfl (by (try dsimp only [pre_rest2]); exact ⟨hinv, by omega, by omega, by omega, by omega, by omega⟩) fun r3 hi8 => ?_
 dsimp only [po_rest2] at hi8
 exact fin_mid2 hK ⟨r3.f⟩ (by dsimp only [po_mid2] <;> (first | (exfalso; omega) | exact ⟨(by first | exact hi8.1), by first | rfl | exact hi8.2⟩))
theorem lo_mid2 : LpOk Try.prog 203 1 lp_step2 false 1 bd_mid2 := by
 refine sp_of (lf := 600) tb_mix (cfT_ok nat_come2_ok) (by rfl) (fun b j x h => (mem_step lo_rest2 (fun h => (by cases h)) h)) (fun S M nx K h => ?_)
 obtain ⟨p, h⟩ := exB_ok h
 obtain ⟨e, h9⟩ := mustP_ok h
 clear h
 have e1 : S = (I_mid2 p).1 := congrArg Prod.fst e
 have e2 : M = (I_mid2 p).2.1 := congrArg (fun x => x.2.1) e
 have e3 : nx = (I_mid2 p).2.2 := congrArg (fun x => x.2.2) e
 subst e1; subst e2; subst e3
 exact vb_mid2 p K (mustP_ok h9).1 (mustP_ok h9).2
structure A_step2 where
 f : F2
 k : Int
 x : Int
 nn : Int
 i : Int
structure R_step2 where
 f : F2
def po_step2 (p : A_step2) (r : R_step2) : Prop := (FI2 r.f ∧ Fr2 p.f r.f) ∧ 0 ≤ r.f.cnt ∧ r.f.cnt ≤ p.f.cnt + 1
noncomputable def I_step2 (p : A_step2) : IE := ([.ptr 0 0, .agg [.sy (.int 0 p.k), .sy (.int 0 p.x), .sy (.int 0 p.nn), .sy (.int 0 p.i)]], (Fd2n p.f), 11)
noncomputable def out_step2 (p : A_step2) (K : KE) : Bool := allB fun r : R_step2 => iP (po_step2 p r) (K (.tup []) (Fd2n r.f) 11) true
def pre_step2 (p : A_step2) : Prop := FI2 p.f ∧ 0 ≤ p.f.cnt ∧ p.f.cnt ≤ 1000000
theorem fin_step2 {p : A_step2} {K : KE} (hK : out_step2 p K = true) (r : R_step2) (h : po_step2 p r) : K (.tup []) (Fd2n r.f) 11 = true := ifB_use h (allB_ok hK r)
theorem vf_step2 (p : A_step2) (K : KE) (hpre : pre_step2 p) (hK : out_step2 p K = true) : (funE 1 (cfT nat_come2) lp_step2 600 ft_step2 (I_step2 p).1 (I_step2 p).2.1 (I_step2 p).2.2 K) = true := by
 refine Eq.trans (b := (let y0 : Int := (Int.tmod ((Int.tmod p.x (2 : Int)) + (2 : Int)) (2 : Int)); let y1 : Int := ((Int.tmod p.nn (3 : Int)) + (3 : Int)); mP ((2 : Int) ≠ 0) (mP (InR 0 ((Int.tmod p.x (2 : Int)) + (2 : Int))) (mP ((2 : Int) ≠ 0) (iP (p.k = (0 : Int)) (mP (InR 0 (p.f.cnt + (1 : Int))) (mP ((16 : Int) ≠ 0) (mP (InR 1 (Int.tmod (p.f.cnt + (1 : Int)) (16 : Int))) (useC (([.ptr 0 0, .agg [.int 1 (.ofNat 2), .int 1 (.ofNat 0), .int 2 (.ofNat 0), .int 3 (.ofNat 0), .int 1 (.ofNat 0), .int 1 (.ofNat 0), .int 1 (.ofNat 0), .int 1 (.ofNat 0), .int 1 (.ofNat 0), .int 1 (.ofNat 0), .int 1 (.ofNat 0), .int 3 (.ofNat 0), .nilS, .int 1 (.ofNat 0), .str [], .nilS, .sy (.int 1 (Int.tmod (p.f.cnt + (1 : Int)) (16 : Int))), .int 2 (.ofNat 1)]], (Ro2n p.f.s0.l p.f.s0.com p.f.s0.sh p.f.c0 p.f.c1), 4)) I_add2 pre_add2 po_add2 fun p1 r1 => K (.tup []) (Fd2n ⟨⟨r1.l, r1.com, p1.sh⟩, p.f.s1, r1.c0, p1.c1, p.f.fly, p.f.cnt + (1 : Int)⟩) 11)))) (iP (p.k = (1 : Int)) (iP ((0 : Int) < y0) (iP ((p.f.fly.length : Int) < (100 : Int)) (mP ((3 : Int) ≠ 0) (mP (InR 0 y1) (mP ((3 : Int) ≠ 0) (mP (InR 0 ((1 : Int) + (Int.tmod y1 (3 : Int)))) (mP (InR 1 y0) (mP (((.int 0 p.nn) : SY) = (.int 0 p.nn)) (useC (([.ptr 0 0, .agg [.sy (.int 1 y0), .int 2 (.ofNat 1)], .sy (.int 0 ((1 : Int) + (Int.tmod y1 (3 : Int))))], (Ro2n p.f.s0.l p.f.s0.com p.f.s0.sh p.f.c0 p.f.c1), 4)) I_since2 pre_since2 po_since2 fun p2 r2 => mP (((.prow 2 p.f.fly.length) : SY) = (.prow 2 p.f.fly.length)) (mP (((.prow 2 p.f.fly.length) : SY) = (.prow 2 p.f.fly.length)) (mP (p.f.fly.length = p.f.fly.length) (exB fun m1 : List Told => mP (rowsR (m1.map encT) [[.sint 0 y0, .sint 0 r2.fr, .sint 0 p2.com, .imm r2.h 18 Int r2.o encK]]) (mP (limP 48 (p.f.fly.length + m1.length)) (K (.tup []) (Fd2 ⟨⟨p2.l, p2.com, p2.sh⟩, p.f.s1, p2.c0, p2.c1, p.f.fly ++ m1, p.f.cnt⟩ ((p.f.fly ++ m1).length) p2.l.length p.f.s1.l.length) 11)))))))))))) (useC (((.cons 5 (.sy (.int 0 (p.f.fly.length : Int))) (.cons 4 (.sy (.int 0 y0)) (.cons 3 (.ptr 1 0) (.cons 0 (.ptr 0 0) .nil)))), (Fb2n p.f p.k p.x p.nn p.i), 12)) I_mid2 pre_mid2 po_mid2 fun p3 r3 => K (.tup []) (Fd2n r3.f) 11)) (useC (((.cons 5 (.sy (.int 0 (p.f.fly.length : Int))) (.cons 4 (.sy (.int 0 y0)) (.cons 3 (.ptr 1 0) (.cons 0 (.ptr 0 0) .nil)))), (Fb2n p.f p.k p.x p.nn p.i), 12)) I_mid2 pre_mid2 po_mid2 fun p4 r4 => K (.tup []) (Fd2n r4.f) 11)) (useC (((.cons 5 (.sy (.int 0 (p.f.fly.length : Int))) (.cons 4 (.sy (.int 0 y0)) (.cons 3 (.ptr 1 0) (.cons 0 (.ptr 0 0) .nil)))), (Fb2n p.f p.k p.x p.nn p.i), 12)) I_mid2 pre_mid2 po_mid2 fun p5 r5 => K (.tup []) (Fd2n r5.f) 11))))))) (by kernel_rfl) ?_
 dsimp only [pre_step2] at hpre
 obtain ⟨hinv, k1, k2⟩ := hpre
 have hinv : FInv p.f.s0 _ _ p.f.fly := hinv
 obtain ⟨hs, hfew, f0, f1⟩ := fact2 hinv
 have t1 := tmb 2 (by decide) p.x
 have t2 := tmp 2 (by decide) (p.x.tmod 2 + 2) (by omega)
 have t3 := tmb 3 (by decide) p.nn
 have t4 := tmp 3 (by decide) (p.nn.tmod 3 + 3) (by omega)
 have t5 := tmp 16 (by decide) (p.f.cnt + 1) (by omega)
 refine mI (by decide) (mI (by simp only [InR]; omega) (mI (by decide) ?_))
 refine iI (fun hc1 => ?_) (fun hc1 => ?_)
 refine mI (by simp only [InR]; omega) (mI (by decide) (mI (by simp only [InR]; omega) ?_))
 refine callPR (⟨p.f.s0.l, p.f.s0.com, p.f.s0.sh, p.f.c0, p.f.c1, Int.tmod (p.f.cnt + (1 : Int)) (16 : Int)⟩ : A_add2) rfl (by (try dsimp only [pre_add2]); omega) fun r1 hi2 => ?_
 dsimp only [po_add2] at hi2
 exact fin_step2 hK ⟨⟨⟨r1.l, r1.com, p.f.s0.sh⟩, p.f.s1, r1.c0, p.f.c1, p.f.fly, p.f.cnt + (1 : Int)⟩⟩ (by dsimp only [po_step2] <;> (refine ⟨?_, by omega, by omega⟩; first | (exfalso; omega) | exact tr_add (maj := 2) hinv (by simp) (by assumption)))
 refine iI (fun hc3 => ?_) (fun hc3 => ?_)
 refine iI (fun hc4 => ?_) (fun hc4 => ?_)
 refine iI (fun hc5 => ?_) (fun hc5 => ?_)
 refine mI (by decide) (mI (by simp only [InR]; omega) (mI (by decide) (mI (by simp only [InR]; omega) (mI (by simp only [InR]; omega) (mI (rfl) ?_)))))
 refine callPR (⟨p.f.s0.l, p.f.s0.com, p.f.s0.sh, p.f.c0, p.f.c1, Int.tmod ((Int.tmod p.x (2 : Int)) + (2 : Int)) (2 : Int), (1 : Int) + (Int.tmod ((Int.tmod p.nn (3 : Int)) + (3 : Int)) (3 : Int))⟩ : A_since2) rfl (by (try dsimp only [pre_since2]); omega) fun r2 hi6 => ?_
 dsimp only [po_since2] at hi6
 refine mI (rfl) (mI (rfl) (mI (rfl) ?_))
 refine exB_mk [⟨Int.tmod ((Int.tmod p.x (2 : Int)) + (2 : Int)) (2 : Int), r2.fr, p.f.s0.com, r2.h, r2.o⟩] ?_
 refine mI ((rows4 (.inl rfl) (.inl rfl) (.inl rfl) (.inl rfl))) (mI (by simp [limP]; omega) ?_)
 exact fin_step2 hK ⟨⟨⟨p.f.s0.l, p.f.s0.com, p.f.s0.sh⟩, p.f.s1, p.f.c0, p.f.c1, p.f.fly ++ [⟨Int.tmod ((Int.tmod p.x (2 : Int)) + (2 : Int)) (2 : Int), r2.fr, p.f.s0.com, r2.h, r2.o⟩], p.f.cnt⟩⟩ (by dsimp only [po_step2] <;> (refine ⟨?_, by omega, by omega⟩; first | (exfalso; omega) | exact ⟨tr_since (m := 2) hinv (by omega) (by simp) (by omega) (by assumption), Frz.refl _⟩))
 refine callPR (⟨p.f, p.k, p.x, p.nn, p.i, Int.tmod ((Int.tmod p.x (2 : Int)) + (2 : Int)) (2 : Int), (p.f.fly.length : Int)⟩ : A_mid2) rfl (by (try dsimp only [pre_mid2]); exact ⟨hinv, by omega, by omega, by omega, by omega, by omega⟩) fun r3 hi7 => ?_
 dsimp only [po_mid2] at hi7
 exact fin_step2 hK ⟨r3.f⟩ (by dsimp only [po_step2] <;> (refine ⟨?_, by omega, by omega⟩; first | (exfalso; omega) | exact hi7.1))
 refine callPR (⟨p.f, p.k, p.x, p.nn, p.i, Int.tmod ((Int.tmod p.x (2 : Int)) + (2 : Int)) (2 : Int), (p.f.fly.length : Int)⟩ : A_mid2) rfl (by (try dsimp only [pre_mid2]); exact ⟨hinv, by omega, by omega, by omega, by omega, by omega⟩) fun r4 hi8 => ?_
 dsimp only [po_mid2] at hi8
 exact fin_step2 hK ⟨r4.f⟩ (by dsimp only [po_step2] <;> (refine ⟨?_, by omega, by omega⟩; first | (exfalso; omega) | exact hi8.1))
 refine callPR (⟨p.f, p.k, p.x, p.nn, p.i, Int.tmod ((Int.tmod p.x (2 : Int)) + (2 : Int)) (2 : Int), (p.f.fly.length : Int)⟩ : A_mid2) rfl (by (try dsimp only [pre_mid2]); exact ⟨hinv, by omega, by omega, by omega, by omega, by omega⟩) fun r5 hi9 => ?_
 dsimp only [po_mid2] at hi9
 exact fin_step2 hK ⟨r5.f⟩ (by dsimp only [po_step2] <;> (refine ⟨?_, by omega, by omega⟩; first | (exfalso; omega) | exact hi9.1))
noncomputable def ec_step2 : SpecE := tstE (elB 1 2) (esOf I_step2 (spP pre_step2 out_step2)) ec_step1
theorem nc_step2 : NatE Try.prog 28 1 ec_step2 := tstE_ok (natE_said (f := 28) (k := 1) (lp := lp_step2) (lf := 600) tb_mix (cfT_ok nat_come2_ok) ft_step2_ok (by rfl) (fun b j x h => (mem_step lo_mid2 (fun h => (by cases h)) h)) fun p K h => vf_step2 p K (mustP_ok h).1 (mustP_ok h).2) nc_step1
noncomputable def nat_step2 := natC nat_come2 1 ec_step2 28 [(0, 4), (1, 15)]
theorem nat_step2_ok : NatsOk Try.prog nat_step2 := natC_ok nc_step2 nat_come2_ok
end Go.Proofs.Try