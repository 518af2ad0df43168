/- Definitions and lemmas of the proof, without a condition of their own. -/
import Derived.Test.YtkahniffcehicaaM3
import Derived.KernelRfl
namespace Go.Proofs.Try
open Go Go.RowKit Go.Sy
open Go.Eng hiding allB
set_option maxRecDepth 1000000
set_option linter.unusedVariables false
set_option maxHeartbeats 4000000
def ft_come3 : XF := ft_come1
theorem ft_come3_ok : chkF Try.prog 41 ft_come3 = true := ft_come1_ok
structure A_come3 where
 f : F3
 t : Told
structure R_come3 where
 f : F3
def po_come3 (p : A_come3) (r : R_come3) : Prop := (FI3 r.f ∧ Fr3 p.f r.f) ∧ r.f.cnt = p.f.cnt
noncomputable def I_come3 (p : A_come3) : IE := ([.ptr 0 0, .agg [.sy (.int 0 p.t.to), .sy (.int 0 p.t.fr), .sy (.int 0 p.t.c), .sy (.imm p.t.h 18 Int p.t.l encK)]], (Fd3n p.f), 15)
noncomputable def out_come3 (p : A_come3) (K : KE) : Bool := allB fun r : R_come3 => iP (po_come3 p r) (K (.tup []) (Fd3n r.f) 15) true
def pre_come3 (p : A_come3) : Prop := FI3 p.f ∧ MsgOk p.f.s0 [p.f.s1, p.f.s2] p.t
theorem fin_come3 {p : A_come3} {K : KE} (hK : out_come3 p K = true) (r : R_come3) (h : po_come3 p r) : K (.tup []) (Fd3n r.f) 15 = true := ifB_use h (allB_ok hK r)
theorem vf_come3 (p : A_come3) (K : KE) (hpre : pre_come3 p) (hK : out_come3 p K = true) : (funE 1 (cfT nat_step2) noLp 600 ft_come3 (I_come3 p).1 (I_come3 p).2.1 (I_come3 p).2.2 K) = true := by
 refine Eq.trans (b := (iP (p.t.to = (0 : Int)) (mP (InR 1 p.t.c) (mP (((.int 0 p.t.fr) : SY) = (.int 0 p.t.fr)) (useC (([.ptr 0 0, .agg [.sy (.int 1 p.t.c), .int 2 (.ofNat 1)], .sy (.int 0 p.t.fr)], (Ro3n p.f.s0.l p.f.s0.com p.f.s0.sh p.f.c0 p.f.c1 p.f.c2), 4)) I_ack3 pre_ack3 po_ack3 fun p1 r1 => K (.tup []) (Fd3n ⟨⟨p1.l, r1.com, p1.sh⟩, p.f.s1, p.f.s2, r1.c0, r1.c1, r1.c2, p.f.fly, p.f.cnt⟩) 15))) (iP (p.t.to = 0) (exB fun p4 : A_take3 => mP (([.ptr 0 0, .sy (.int 0 p.t.fr), .sy (.imm p.t.h 18 Int p.t.l encK), .sy (.int 0 p.t.c)], (Ro3n p.f.s0.l p.f.s0.com p.f.s0.sh p.f.c0 p.f.c1 p.f.c2), 4) = I_take3 p4) (mP (pre_take3 p4) (allB fun r4 : R_take3 => iP (po_take3 p4 r4) (K (.tup []) (.node (.node (.node (.node .leaf (some (.prow 45 18 Int r4.l encK)) .leaf) (some (.blk false 67 10 [[.int 1 (.ofNat 0), .int 3 (.ofNat 1), .sl 6 0 3 (.rest 0), .sy (.int 1 p4.me), .int 2 (.ofNat 1), .sy (.prow 7 r4.l.length), .int 0 (.ofNat 0), .sy (.int 0 r4.com), .sy (.bool p4.sh), .map 8]])) (.node .leaf (some (.map [(.agg [.int 1 (.ofNat 0), .int 2 (.ofNat 1)], .sy (.int 0 0), 0), (.agg [.int 1 (.ofNat 1), .int 2 (.ofNat 1)], .sy (.int 0 0), 1), (.agg [.int 1 (.ofNat 2), .int 2 (.ofNat 1)], .sy (.int 0 0), 2)] 3)) .leaf)) (some (.blk true 22 1 [[.ptr 3 0], [.ptr 4 0], [.ptr 5 0]])) (.node (.node .leaf (some (.blk true 31 2 [[.int 1 (.ofNat 0), .int 2 (.ofNat 1)], [.int 1 (.ofNat 1), .int 2 (.ofNat 1)], [.int 1 (.ofNat 2), .int 2 (.ofNat 1)]])) .leaf) (some (.blk false 67 10 [[.int 1 (.ofNat 0), .int 3 (.ofNat 1), .sl 12 0 3 (.rest 0), .sy (.int 1 2), .int 2 (.ofNat 1), .sy (.prow 13 p.f.s2.l.length), .int 0 (.ofNat 0), .sy (.int 0 p.f.s2.com), .sy (.bool p.f.s2.sh), .map 14]])) (.node .leaf (some (.prow 45 18 Int p.f.s2.l encK)) .leaf))) (some (.blk false 81 3 [[.sl 1 0 3 (.rest 0), .sy (.prow 2 p.f.fly.length), .sy (.int 0 p.f.cnt)]])) (.node (.node (.node .leaf (some (.map [(.agg [.int 1 (.ofNat 0), .int 2 (.ofNat 1)], .sy (.int 0 p4.c0), 0), (.agg [.int 1 (.ofNat 1), .int 2 (.ofNat 1)], .sy (.int 0 p4.c1), 1), (.agg [.int 1 (.ofNat 2), .int 2 (.ofNat 1)], .sy (.int 0 p4.c2), 2)] 3)) .leaf) (some (.blk false 67 10 [[.int 1 (.ofNat 0), .int 3 (.ofNat 1), .sl 9 0 3 (.rest 0), .sy (.int 1 1), .int 2 (.ofNat 1), .sy (.prow 10 p.f.s1.l.length), .int 0 (.ofNat 0), .sy (.int 0 p.f.s1.com), .sy (.bool p.f.s1.sh), .map 11]])) (.node .leaf (some (.blk true 31 2 [[.int 1 (.ofNat 0), .int 2 (.ofNat 1)], [.int 1 (.ofNat 1), .int 2 (.ofNat 1)], [.int 1 (.ofNat 2), .int 2 (.ofNat 1)]])) .leaf)) (some (.prow 100 4 Told p.f.fly encT)) (.node (.node .leaf (some (.prow 45 18 Int p.f.s1.l encK)) .leaf) (some (.blk true 31 2 [[.int 1 (.ofNat 0), .int 2 (.ofNat 1)], [.int 1 (.ofNat 1), .int 2 (.ofNat 1)], [.int 1 (.ofNat 2), .int 2 (.ofNat 1)]])) (.node .leaf (some (.map [(.agg [.int 1 (.ofNat 0), .int 2 (.ofNat 1)], .sy (.int 0 0), 0), (.agg [.int 1 (.ofNat 1), .int 2 (.ofNat 1)], .sy (.int 0 0), 1), (.agg [.int 1 (.ofNat 2), .int 2 (.ofNat 1)], .sy (.int 0 0), 2)] 3)) .leaf)))) 15) true))) (iP (p.t.to = 1) (useC (([.ptr 0 0, .sy (.int 0 p.t.fr), .sy (.imm p.t.h 18 Int p.t.l encK), .sy (.int 0 p.t.c)], (Rm3n p.f.s1.l p.f.s1.com p.f.s1.sh 0 0 0 1), 4)) I_take3 pre_take3 po_take3 fun p3 r3 => K (.tup []) (Fg3 ({ p.f with s1 := ⟨r3.l, r3.com, p3.sh⟩ } : F3) p3.me p3.c0 p3.c1 p3.c2 2 0 0 0 p.f.fly.length p.f.s0.l.length r3.l.length p.f.s2.l.length) 15) (iP (p.t.to = 2) (useC (([.ptr 0 0, .sy (.int 0 p.t.fr), .sy (.imm p.t.h 18 Int p.t.l encK), .sy (.int 0 p.t.c)], (Rm3n p.f.s2.l p.f.s2.com p.f.s2.sh 0 0 0 2), 4)) I_take3 pre_take3 po_take3 fun p2 r2 => K (.tup []) (Fg3 ({ p.f with s2 := ⟨r2.l, r2.com, p2.sh⟩ } : F3) 1 0 0 0 p2.me p2.c0 p2.c1 p2.c2 p.f.fly.length p.f.s0.l.length p.f.s1.l.length r2.l.length) 15) (mP (False) (true))))))) (by kernel_rfl) ?_
 dsimp only [pre_come3] at hpre
 obtain ⟨hinv, hm⟩ := hpre
 have hinv : FInv p.f.s0 _ _ p.f.fly := hinv
 obtain ⟨hs, hfew, f0, f1, f2⟩ := fact3 hinv
 have hm2 := hm.flat hs
 simp only [List.length_cons, List.length_nil, List.length_singleton] at hm2
 refine iI (fun hc1 => ?_) (fun hc1 => ?_)
 refine mI (by simp only [InR]; omega) (mI (rfl) ?_)
 refine callPR (⟨p.f.s0.l, p.f.s0.com, p.f.s0.sh, p.f.c0, p.f.c1, p.f.c2, p.t.c, p.t.fr⟩ : A_ack3) rfl (by (try dsimp only [pre_ack3]); omega) fun r1 hi2 => ?_
 dsimp only [po_ack3] at hi2
 exact fin_come3 hK ⟨⟨⟨p.f.s0.l, r1.com, p.f.s0.sh⟩, p.f.s1, p.f.s2, r1.c0, r1.c1, r1.c2, p.f.fly, p.f.cnt⟩⟩ (by dsimp only [po_come3] <;> (first | (exfalso; omega) | exact ⟨tr_ack (maj := 2) (m := 3) hinv (by simp) (by simp) hm (by assumption) (by assumption), rfl⟩))
 refine iI (fun hc3 => ?_) (fun hc3 => ?_)
 exfalso; omega
 refine iI (fun hc4 => ?_) (fun hc4 => ?_)
 refine callPR (⟨p.f.s1.l, p.f.s1.com, p.f.s1.sh, (0 : Int), (0 : Int), (0 : Int), (1 : Int), p.t.fr, p.t.h, p.t.l, p.t.c⟩ : A_take3) rfl (by (try dsimp only [pre_take3]); omega) fun r3 hi5 => ?_
 dsimp only [po_take3] at hi5
 exact fin_come3 hK ⟨({ p.f with s1 := ⟨r3.l, r3.com, p.f.s1.sh⟩ } : F3)⟩ (by dsimp only [po_come3] <;> (first | (exfalso; omega) | exact ⟨tr_take (i := 0) hinv rfl hm (by assumption) (by assumption), rfl⟩))
 refine iI (fun hc6 => ?_) (fun hc6 => ?_)
 refine callPR (⟨p.f.s2.l, p.f.s2.com, p.f.s2.sh, (0 : Int), (0 : Int), (0 : Int), (2 : Int), p.t.fr, p.t.h, p.t.l, p.t.c⟩ : A_take3) rfl (by (try dsimp only [pre_take3]); omega) fun r2 hi7 => ?_
 dsimp only [po_take3] at hi7
 exact fin_come3 hK ⟨({ p.f with s2 := ⟨r2.l, r2.com, p.f.s2.sh⟩ } : F3)⟩ (by dsimp only [po_come3] <;> (first | (exfalso; omega) | exact ⟨tr_take (i := 1) hinv rfl hm (by assumption) (by assumption), rfl⟩))
 refine mI (by omega) ?_
 rfl
noncomputable def ec_come3 : SpecE := tstE (elB 1 3) (esOf I_come3 (spP pre_come3 out_come3)) ec_come2
theorem nc_come3 : NatE Try.prog 41 1 ec_come3 := tstE_ok (natE_pl (f := 41) (k := 1) (cfT_ok nat_step2_ok) ft_come3_ok (by rfl) (by rfl) vf_come3) nc_come2
noncomputable def nat_come3 := natC nat_step2 1 ec_come3 41 [(0, 4), (1, 15)]
theorem nat_come3_ok : NatsOk Try.prog nat_come3 := natC_ok nc_come3 nat_step2_ok
def ft_step3 : XF := ft_step1
theorem ft_step3_ok : chkF Try.prog 28 ft_step3 = true := ft_step1_ok
structure A_rest3 where
 f : F3
 k : Int
 x : Int
 nn : Int
 i : Int
 y : Int
 kk : Int
structure R_rest3 where
 f : F3
def po_rest3 (p : A_rest3) (r : R_rest3) : Prop := (FI3 r.f ∧ Fr3 p.f r.f) ∧ r.f.cnt = p.f.cnt
noncomputable def I_rest3 (p : A_rest3) : IL := ((.cons 5 (.sy (.int 0 p.kk)) (.cons 4 (.sy (.int 0 p.y)) (.cons 3 (.ptr 1 0) (.cons 0 (.ptr 0 0) .nil)))), (Fb3n p.f p.k p.x p.nn p.i), 16)
noncomputable def out_rest3 (p : A_rest3) (K : KC) : Bool := allB fun r : R_rest3 => iP (po_rest3 p r) (K 0 .nil (Fd3n r.f) 15) true
def pre_rest3 (p : A_rest3) : Prop := FI3 p.f ∧ 0 ≤ p.f.cnt ∧ p.f.cnt ≤ 1000000 ∧ 0 ≤ p.y ∧ p.y < 3 ∧ p.kk = (p.f.fly.length : Int)
theorem fin_rest3 {p : A_rest3} {K : KC} (hK : out_rest3 p K = true) (r : R_rest3) (h : po_rest3 p r) : K 0 .nil (Fd3n r.f) 15 = true := ifB_use h (allB_ok hK r)
noncomputable def sp_rest3 (p : A_rest3) (K : KC) : Bool := must (prB (pre_rest3 p)) (out_rest3 p K)
structure A_mid3 where
 f : F3
 k : Int
 x : Int
 nn : Int
 i : Int
 y : Int
 kk : Int
structure R_mid3 where
 f : F3
def po_mid3 (p : A_mid3) (r : R_mid3) : Prop := (FI3 r.f ∧ Fr3 p.f r.f) ∧ r.f.cnt = p.f.cnt
noncomputable def I_mid3 (p : A_mid3) : IL := ((.cons 5 (.sy (.int 0 p.kk)) (.cons 4 (.sy (.int 0 p.y)) (.cons 3 (.ptr 1 0) (.cons 0 (.ptr 0 0) .nil)))), (Fb3n p.f p.k p.x p.nn p.i), 16)
noncomputable def out_mid3 (p : A_mid3) (K : KC) : Bool := allB fun r : R_mid3 => iP (po_mid3 p r) (K 0 .nil (Fd3n r.f) 15) true
def pre_mid3 (p : A_mid3) : Prop := FI3 p.f ∧ 0 ≤ p.f.cnt ∧ p.f.cnt ≤ 1000000 ∧ 0 ≤ p.y ∧ p.y < 3 ∧ p.kk = (p.f.fly.length : Int)
theorem fin_mid3 {p : A_mid3} {K : KC} (hK : out_mid3 p K = true) (r : R_mid3) (h : po_mid3 p r) : K 0 .nil (Fd3n r.f) 15 = true := ifB_use h (allB_ok hK r)
noncomputable def sp_mid3 (p : A_mid3) (K : KC) : Bool := must (prB (pre_mid3 p)) (out_mid3 p K)
noncomputable def lp_step3 : LpF := fun j S M nx K => (Bool.rec ((Bool.rec (false) (exB fun p : A_mid3 => must (prB ((S, M, nx) = I_mid3 p)) (sp_mid3 p K)) (Nat.beq j 1))) (exB fun p : A_rest3 => must (prB ((S, M, nx) = I_rest3 p)) (sp_rest3 p K)) (Nat.beq j 0))
def bd_rest3 : XC := bd_rest1
theorem vb_rest3 (p : A_rest3) (K : KC) (hpre : pre_rest3 p) (hK : out_rest3 p K = true) : (codeX (cfT nat_come3) lp_step3 600 bd_rest3 (I_rest3 p).1 (I_rest3 p).2.1 (I_rest3 p).2.2 K) = true := by
 refine Eq.trans (b := (let y0 : Int := (Int.tmod ((Int.tmod p.i p.kk) + p.kk) p.kk); iP (p.k = (7 : Int)) (iP (p.y = 0) (K 0 .nil (Fd3n ({ p.f with s0 := ({ p.f.s0 with sh := true = true } : Rl) } : F3)) 15) (iP (p.y = 1) (K 0 .nil (Fd3n ({ p.f with s1 := ({ p.f.s1 with sh := true = true } : Rl) } : F3)) 15) (iP (p.y = 2) (K 0 .nil (Fd3n ({ p.f with s2 := ({ p.f.s2 with sh := true = true } : Rl) } : F3)) 15) (mP (False) (true))))) (iP ((3 : Int) ≤ p.k) (iP ((0 : Int) < p.kk) (mP (p.kk ≠ 0) (mP (InR 0 ((Int.tmod p.i p.kk) + p.kk)) (mP (p.kk ≠ 0) (mP (0 ≤ y0 ∧ y0 < (p.f.fly.length : Int)) (mP ((y0.toNat) < p.f.fly.length) (allB fun x1 : Told => iP (p.f.fly[y0.toNat]? = some x1) (iP (¬ p.k = (5 : Int)) (mP (p.f.fly.length = p.f.fly.length ∧ 0 ≤ (0 : Int) ∧ (0 : Int) ≤ y0 ∧ y0 ≤ (p.f.fly.length : Int)) (mP (InR 0 (y0 + (1 : Int))) (mP (p.f.fly.length = p.f.fly.length ∧ 0 ≤ (y0 + (1 : Int)) ∧ (y0 + (1 : Int)) ≤ (p.f.fly.length : Int) ∧ (p.f.fly.length : Int) ≤ (p.f.fly.length : Int)) (mP (((.prow 3 p.f.fly.length) : SY) = (.prow 3 p.f.fly.length)) (mP (p.f.fly.length = p.f.fly.length ∧ 0 ≤ (0 : Int) ∧ (0 : Int) ≤ y0 ∧ y0 ≤ (p.f.fly.length : Int)) (mP (((.psub 3 4 0 ((y0.toNat) - 0)) : SY) = (.psub 3 4 0 ((y0.toNat) - 0))) (mP (((.prow 3 p.f.fly.length) : SY) = (.prow 3 p.f.fly.length)) (mP (p.f.fly.length = p.f.fly.length ∧ 0 ≤ (y0 + (1 : Int)) ∧ (y0 + (1 : Int)) ≤ (p.f.fly.length : Int) ∧ (p.f.fly.length : Int) ≤ (p.f.fly.length : Int)) (mP (((.psub 3 4 ((y0 + (1 : Int)).toNat) (p.f.fly.length - ((y0 + (1 : Int)).toNat))) : SY) = (.psub 3 4 ((y0 + (1 : Int)).toNat) (p.f.fly.length - ((y0 + (1 : Int)).toNat)))) (mP (0 + ((y0.toNat) - 0) ≤ p.f.fly.length) (iP (((p.f.fly.drop 0).take ((y0.toNat) - 0)) = []) (mP (((.prow 3 p.f.fly.length) : SY) = (.prow 3 p.f.fly.length)) (mP (p.f.fly.length = p.f.fly.length ∧ 0 ≤ (y0 + (1 : Int)) ∧ (y0 + (1 : Int)) ≤ (p.f.fly.length : Int) ∧ (p.f.fly.length : Int) ≤ (p.f.fly.length : Int)) (mP (((.psub 3 4 ((y0 + (1 : Int)).toNat) (p.f.fly.length - ((y0 + (1 : Int)).toNat))) : SY) = (.psub 3 4 ((y0 + (1 : Int)).toNat) (p.f.fly.length - ((y0 + (1 : Int)).toNat)))) (mP (((y0 + (1 : Int)).toNat) + (p.f.fly.length - ((y0 + (1 : Int)).toNat)) ≤ p.f.fly.length) (iP (((p.f.fly.drop ((y0 + (1 : Int)).toNat)).take (p.f.fly.length - ((y0 + (1 : Int)).toNat))) = []) (mP ((.sl 17 0 0 (.ex 0) : AV) = (.sl 17 0 0 (.ex 0) : AV)) (iP (¬ p.k = (6 : Int)) (useC (([.ptr 0 0, .agg [.sy (.int 0 x1.to), .sy (.int 0 x1.fr), .sy (.int 0 x1.c), .sy (.imm x1.h 18 Int x1.l encK)]], (Fd3 ({ p.f with fly := ([] : List Told) } : F3) 0 p.f.s0.l.length p.f.s1.l.length p.f.s2.l.length), 15)) I_come3 pre_come3 po_come3 fun p1 r1 => K 0 .nil (Fd3n r1.f) 15) (K 0 .nil (Fd3 ({ p.f with fly := ([] : List Told) } : F3) 0 p.f.s0.l.length p.f.s1.l.length p.f.s2.l.length) 15))) (mP (limP 48 ((p.f.fly.drop ((y0 + (1 : Int)).toNat)).take (p.f.fly.length - ((y0 + (1 : Int)).toNat))).length) (iP (¬ p.k = (6 : Int)) (useC (([.ptr 0 0, .agg [.sy (.int 0 x1.to), .sy (.int 0 x1.fr), .sy (.int 0 x1.c), .sy (.imm x1.h 18 Int x1.l encK)]], (Fd3 ({ p.f with fly := (p.f.fly.drop ((y0 + (1 : Int)).toNat)).take (p.f.fly.length - ((y0 + (1 : Int)).toNat)) } : F3) (((p.f.fly.drop ((y0 + (1 : Int)).toNat)).take (p.f.fly.length - ((y0 + (1 : Int)).toNat))).length) p.f.s0.l.length p.f.s1.l.length p.f.s2.l.length), 15)) I_come3 pre_come3 po_come3 fun p2 r2 => K 0 .nil (Fd3n r2.f) 15) (K 0 .nil (Fd3 ({ p.f with fly := (p.f.fly.drop ((y0 + (1 : Int)).toNat)).take (p.f.fly.length - ((y0 + (1 : Int)).toNat)) } : F3) (((p.f.fly.drop ((y0 + (1 : Int)).toNat)).take (p.f.fly.length - ((y0 + (1 : Int)).toNat))).length) p.f.s0.l.length p.f.s1.l.length p.f.s2.l.length) 15)))))))) (mP (limP 48 ((p.f.fly.drop 0).take ((y0.toNat) - 0)).length) (mP (((.prow 3 p.f.fly.length) : SY) = (.prow 3 p.f.fly.length)) (mP (p.f.fly.length = p.f.fly.length ∧ 0 ≤ (y0 + (1 : Int)) ∧ (y0 + (1 : Int)) ≤ (p.f.fly.length : Int) ∧ (p.f.fly.length : Int) ≤ (p.f.fly.length : Int)) (mP (((.psub 3 4 ((y0 + (1 : Int)).toNat) (p.f.fly.length - ((y0 + (1 : Int)).toNat))) : SY) = (.psub 3 4 ((y0 + (1 : Int)).toNat) (p.f.fly.length - ((y0 + (1 : Int)).toNat)))) (mP (((y0 + (1 : Int)).toNat) + (p.f.fly.length - ((y0 + (1 : Int)).toNat)) ≤ p.f.fly.length) (mP ((((p.f.fly.drop 0).take ((y0.toNat) - 0)).length) = ((p.f.fly.drop 0).take ((y0.toNat) - 0)).length) (iP (((p.f.fly.drop ((y0 + (1 : Int)).toNat)).take (p.f.fly.length - ((y0 + (1 : Int)).toNat))) = []) (iP (¬ p.k = (6 : Int)) (useC (([.ptr 0 0, .agg [.sy (.int 0 x1.to), .sy (.int 0 x1.fr), .sy (.int 0 x1.c), .sy (.imm x1.h 18 Int x1.l encK)]], (Fd3 ({ p.f with fly := (p.f.fly.drop 0).take ((y0.toNat) - 0) } : F3) (((p.f.fly.drop 0).take ((y0.toNat) - 0)).length) p.f.s0.l.length p.f.s1.l.length p.f.s2.l.length), 15)) I_come3 pre_come3 po_come3 fun p4 r4 => K 0 .nil (Fd3n r4.f) 15) (K 0 .nil (Fd3 ({ p.f with fly := (p.f.fly.drop 0).take ((y0.toNat) - 0) } : F3) (((p.f.fly.drop 0).take ((y0.toNat) - 0)).length) p.f.s0.l.length p.f.s1.l.length p.f.s2.l.length) 15)) (exB fun m1 : List Told => mP (rowsR (m1.map encT) (((p.f.fly.drop ((y0 + (1 : Int)).toNat)).take (p.f.fly.length - ((y0 + (1 : Int)).toNat))).map encT)) (mP (limP 48 (((p.f.fly.drop 0).take ((y0.toNat) - 0)).length + m1.length)) (iP (¬ p.k = (6 : Int)) (useC (([.ptr 0 0, .agg [.sy (.int 0 x1.to), .sy (.int 0 x1.fr), .sy (.int 0 x1.c), .sy (.imm x1.h 18 Int x1.l encK)]], (Fd3 ({ p.f with fly := ((p.f.fly.drop 0).take ((y0.toNat) - 0)) ++ m1 } : F3) ((((p.f.fly.drop 0).take ((y0.toNat) - 0)) ++ m1).length) p.f.s0.l.length p.f.s1.l.length p.f.s2.l.length), 15)) I_come3 pre_come3 po_come3 fun p3 r3 => K 0 .nil (Fd3n r3.f) 15) (K 0 .nil (Fd3 ({ p.f with fly := ((p.f.fly.drop 0).take ((y0.toNat) - 0)) ++ m1 } : F3) ((((p.f.fly.drop 0).take ((y0.toNat) - 0)) ++ m1).length) p.f.s0.l.length p.f.s1.l.length p.f.s2.l.length) 15)))))))))))))))))))))) (iP (¬ p.k = (6 : Int)) (useC (([.ptr 0 0, .agg [.sy (.int 0 x1.to), .sy (.int 0 x1.fr), .sy (.int 0 x1.c), .sy (.imm x1.h 18 Int x1.l encK)]], (Fd3n p.f), 15)) I_come3 pre_come3 po_come3 fun p5 r5 => K 0 .nil (Fd3n r5.f) 15) (K 0 .nil (Fd3n p.f) 15))) true)))))) (K 0 .nil (Fd3n p.f) 15)) (K 0 .nil (Fd3n p.f) 15)))) (by kernel_rfl) ?_
 dsimp only [pre_rest3] at hpre
 obtain ⟨hinv, k1, k2, k3, k4, k5⟩ := hpre
 have hinv : FInv p.f.s0 _ _ p.f.fly := hinv
 obtain ⟨hs, hfew, f0, f1, f2⟩ := fact3 hinv
 have t6 := tmk p.kk p.i
 have t7 := tmk2 p.kk p.i
 refine iI (fun hc1 => ?_) (fun hc1 => ?_)
 refine iI (fun hc2 => ?_) (fun hc2 => ?_)
 exact fin_rest3 hK ⟨({ p.f with s0 := ({ p.f.s0 with sh := true = true } : Rl) } : F3)⟩ (by dsimp only [po_rest3] <;> (first | (exfalso; omega) | exact ⟨(by first | exact ⟨tr_shut hinv _, frz_shut rfl⟩), by first | rfl | exact hi0.2⟩))
 refine iI (fun hc3 => ?_) (fun hc3 => ?_)
 exact fin_rest3 hK ⟨({ p.f with s1 := ({ p.f.s1 with sh := true = true } : Rl) } : F3)⟩ (by dsimp only [po_rest3] <;> (first | (exfalso; omega) | exact ⟨(by first | exact ⟨tr_shutO (i := 0) hinv rfl _, frz_other (i := 0) rfl fun _ => ⟨rfl, rfl⟩⟩), by first | rfl | exact hi0.2⟩))
 refine iI (fun hc4 => ?_) (fun hc4 => ?_)
 exact fin_rest3 hK ⟨({ p.f with s2 := ({ p.f.s2 with sh := true = true } : Rl) } : F3)⟩ (by dsimp only [po_rest3] <;> (first | (exfalso; omega) | exact ⟨(by first | exact ⟨tr_shutO (i := 1) hinv rfl _, frz_other (i := 1) rfl fun _ => ⟨rfl, rfl⟩⟩), by first | rfl | exact hi0.2⟩))
 refine mI (by omega) ?_
 rfl
 refine iI (fun hc5 => ?_) (fun hc5 => ?_)
 refine iI (fun hc6 => ?_) (fun hc6 => ?_)
 refine mI (by omega) (mI (by simp only [InR]; omega) (mI (by omega) (mI (by first | omega | (constructor <;> omega)) (mI (by omega) ?_))))
 refine allB_mk (fun x1 => ?_)
 refine iI (fun hi7 => ?_) (fun _ => rfl)
 have hm := hinv.msgs x1 (List.mem_of_getElem? (by assumption))
 refine iI (fun hc8 => ?_) (fun hc8 => ?_)
 refine mI (by first | omega | (simp; omega)) (mI (by simp only [InR]; omega) (mI (by first | omega | (simp; omega)) (mI (rfl) (mI (by first | omega | (simp; omega)) (mI (rfl) (mI (rfl) (mI (by first | omega | (simp; omega)) (mI (rfl) (mI (by (first | omega | (simp [limP] <;> omega))) ?_)))))))))
 refine iI (fun hc9 => ?_) (fun hc9 => ?_)
 have hc9l : (((p.f.fly.drop 0).take (((Int.tmod ((Int.tmod p.i p.kk) + p.kk) p.kk).toNat) - 0))).length = 0 := (by rw [hc9]; rfl)
 refine mI (rfl) (mI (by first | omega | (simp; omega)) (mI (rfl) (mI (by (first | omega | (simp [limP] <;> omega))) ?_)))
 refine iI (fun hc10 => ?_) (fun hc10 => ?_)
 have hc10l : (((p.f.fly.drop (((Int.tmod ((Int.tmod p.i p.kk) + p.kk) p.kk) + (1 : Int)).toNat)).take (p.f.fly.length - (((Int.tmod ((Int.tmod p.i p.kk) + p.kk) p.kk) + (1 : Int)).toNat)))).length = 0 := (by rw [hc10]; rfl)
 refine mI (rfl) ?_
 refine iI (fun hc11 => ?_) (fun hc11 => ?_)
 refine callPR (⟨({ p.f with fly := ([] : List Told) } : F3), x1⟩ : A_come3) rfl (by (try dsimp only [pre_come3]); exact ⟨(hinv.sub (fun _ h => by simp at h) (by simp)), hm⟩) fun r1 hi12 => ?_
 dsimp only [po_come3] at hi12
 exact fin_rest3 hK ⟨r1.f⟩ (by dsimp only [po_rest3] <;> (first | (exfalso; omega) | exact ⟨(by first | exact hi12.1), by first | rfl | exact hi12.2⟩))
 exact fin_rest3 hK ⟨({ p.f with fly := ([] : List Told) } : F3)⟩ (by dsimp only [po_rest3] <;> (first | (exfalso; omega) | exact ⟨(by first | exact ⟨(hinv.sub (fun _ h => by simp at h) (by simp)), Frz.refl _⟩), by first | rfl | exact hi7.2⟩))
 have hc10l : 0 < (((p.f.fly.drop (((Int.tmod ((Int.tmod p.i p.kk) + p.kk) p.kk) + (1 : Int)).toNat)).take (p.f.fly.length - (((Int.tmod ((Int.tmod p.i p.kk) + p.kk) p.kk) + (1 : Int)).toNat)))).length := List.length_pos_iff.2 hc10
 refine mI (by simp [limP]; omega) ?_
 refine iI (fun hc13 => ?_) (fun hc13 => ?_)
 refine callPR (⟨({ p.f with fly := (p.f.fly.drop (((Int.tmod ((Int.tmod p.i p.kk) + p.kk) p.kk) + (1 : Int)).toNat)).take (p.f.fly.length - (((Int.tmod ((Int.tmod p.i p.kk) + p.kk) p.kk) + (1 : Int)).toNat)) } : F3), x1⟩ : A_come3) rfl (by (try dsimp only [pre_come3]); exact ⟨(hinv.sub sub_one (by simp; omega)), hm⟩) fun r2 hi14 => ?_
 dsimp only [po_come3] at hi14
 exact fin_rest3 hK ⟨r2.f⟩ (by dsimp only [po_rest3] <;> (first | (exfalso; omega) | exact ⟨(by first | exact hi14.1), by first | rfl | exact hi14.2⟩))
 exact fin_rest3 hK ⟨({ p.f with fly := (p.f.fly.drop (((Int.tmod ((Int.tmod p.i p.kk) + p.kk) p.kk) + (1 : Int)).toNat)).take (p.f.fly.length - (((Int.tmod ((Int.tmod p.i p.kk) + p.kk) p.kk) + (1 : Int)).toNat)) } : F3)⟩ (by dsimp only [po_rest3] <;> (first | (exfalso; omega) | exact ⟨(by first | exact ⟨(hinv.sub sub_one (by simp; omega)), Frz.refl _⟩), by first | rfl | exact hi7.2⟩))
 have hc9l : 0 < (((p.f.fly.drop 0).take (((Int.tmod ((Int.tmod p.i p.kk) + p.kk) p.kk).toNat) - 0))).length := List.length_pos_iff.2 hc9
 refine mI (by simp [limP]; omega) (mI (rfl) (mI (by first | omega | (simp; omega)) (mI (rfl) (mI (by (first | omega | (simp [limP] <;> omega))) (mI (rfl) ?_)))))
 refine iI (fun hc15 => ?_) (fun hc15 => ?_)
 have hc15l : (((p.f.fly.drop (((Int.tmod ((Int.tmod p.i p.kk) + p.kk) p.kk) + (1 : Int)).toNat)).take (p.f.fly.length - (((Int.tmod ((Int.tmod p.i p.kk) + p.kk) p.kk) + (1 : Int)).toNat)))).length = 0 := (by rw [hc15]; rfl)
 refine iI (fun hc16 => ?_) (fun hc16 => ?_)
 refine callPR (⟨({ p.f with fly := (p.f.fly.drop 0).take (((Int.tmod ((Int.tmod p.i p.kk) + p.kk) p.kk).toNat) - 0) } : F3), x1⟩ : A_come3) rfl (by (try dsimp only [pre_come3]); exact ⟨(hinv.sub sub_one (by simp; omega)), hm⟩) fun r4 hi17 => ?_
 dsimp only [po_come3] at hi17
 exact fin_rest3 hK ⟨r4.f⟩ (by dsimp only [po_rest3] <;> (first | (exfalso; omega) | exact ⟨(by first | exact hi17.1), by first | rfl | exact hi17.2⟩))
 exact fin_rest3 hK ⟨({ p.f with fly := (p.f.fly.drop 0).take (((Int.tmod ((Int.tmod p.i p.kk) + p.kk) p.kk).toNat) - 0) } : F3)⟩ (by dsimp only [po_rest3] <;> (first | (exfalso; omega) | exact ⟨(by first | exact ⟨(hinv.sub sub_one (by simp; omega)), Frz.refl _⟩), by first | rfl | exact hi7.2⟩))
 have hc15l : 0 < (((p.f.fly.drop (((Int.tmod ((Int.tmod p.i p.kk) + p.kk) p.kk) + (1 : Int)).toNat)).take (p.f.fly.length - (((Int.tmod ((Int.tmod p.i p.kk) + p.kk) p.kk) + (1 : Int)).toNat)))).length := List.length_pos_iff.2 hc15
 refine exB_mk ((p.f.fly.drop (((Int.tmod ((Int.tmod p.i p.kk) + p.kk) p.kk) + (1 : Int)).toNat)).take (p.f.fly.length - (((Int.tmod ((Int.tmod p.i p.kk) + p.kk) p.kk) + (1 : Int)).toNat))) ?_
 refine mI (show rowsR (((p.f.fly.drop (((Int.tmod ((Int.tmod p.i p.kk) + p.kk) p.kk) + (1 : Int)).toNat)).take (p.f.fly.length - (((Int.tmod ((Int.tmod p.i p.kk) + p.kk) p.kk) + (1 : Int)).toNat))).map encT) (((p.f.fly.drop (((Int.tmod ((Int.tmod p.i p.kk) + p.kk) p.kk) + (1 : Int)).toNat)).take (p.f.fly.length - (((Int.tmod ((Int.tmod p.i p.kk) + p.kk) p.kk) + (1 : Int)).toNat))).map encT) from rowsR_refl _) ?_
 refine mI (by simp [limP]; omega) ?_
 refine iI (fun hc18 => ?_) (fun hc18 => ?_)
 refine callPR (⟨({ p.f with fly := ((p.f.fly.drop 0).take (((Int.tmod ((Int.tmod p.i p.kk) + p.kk) p.kk).toNat) - 0)) ++ ((p.f.fly.drop (((Int.tmod ((Int.tmod p.i p.kk) + p.kk) p.kk) + (1 : Int)).toNat)).take (p.f.fly.length - (((Int.tmod ((Int.tmod p.i p.kk) + p.kk) p.kk) + (1 : Int)).toNat))) } : F3), x1⟩ : A_come3) rfl (by (try dsimp only [pre_come3]); exact ⟨(hinv.sub sub_cut (by simp; omega)), hm⟩) fun r3 hi19 => ?_
 dsimp only [po_come3] at hi19
 exact fin_rest3 hK ⟨r3.f⟩ (by dsimp only [po_rest3] <;> (first | (exfalso; omega) | exact ⟨(by first | exact hi19.1), by first | rfl | exact hi19.2⟩))
 exact fin_rest3 hK ⟨({ p.f with fly := ((p.f.fly.drop 0).take (((Int.tmod ((Int.tmod p.i p.kk) + p.kk) p.kk).toNat) - 0)) ++ ((p.f.fly.drop (((Int.tmod ((Int.tmod p.i p.kk) + p.kk) p.kk) + (1 : Int)).toNat)).take (p.f.fly.length - (((Int.tmod ((Int.tmod p.i p.kk) + p.kk) p.kk) + (1 : Int)).toNat))) } : F3)⟩ (by dsimp only [po_rest3] <;> (first | (exfalso; omega) | exact ⟨(by first | exact ⟨(hinv.sub sub_cut (by simp; omega)), Frz.refl _⟩), by first | rfl | exact hi7.2⟩))
 refine iI (fun hc20 => ?_) (fun hc20 => ?_)
 refine callPR (⟨p.f, x1⟩ : A_come3) rfl (by (try dsimp only [pre_come3]); exact ⟨hinv, hm⟩) fun r5 hi21 => ?_
 dsimp only [po_come3] at hi21
 exact fin_rest3 hK ⟨r5.f⟩ (by dsimp only [po_rest3] <;> (first | (exfalso; omega) | exact ⟨(by first | exact hi21.1), by first | rfl | exact hi21.2⟩))
 exact fin_rest3 hK ⟨p.f⟩ (by dsimp only [po_rest3] <;> (first | (exfalso; omega) | exact ⟨(by first | exact ⟨hinv, Frz.refl _⟩), by first | rfl | exact hi7.2⟩))
 exact fin_rest3 hK ⟨p.f⟩ (by dsimp only [po_rest3] <;> (first | (exfalso; omega) | exact ⟨(by first | exact ⟨hinv, Frz.refl _⟩), by first | rfl | exact hi0.2⟩))
 exact fin_rest3 hK ⟨p.f⟩ (by dsimp only [po_rest3] <;> (first | (exfalso; omega) | exact ⟨(by first | exact ⟨hinv, Frz.refl _⟩), by first | rfl | exact hi0.2⟩))
theorem lo_rest3 : LpOk Try.prog 203 1 lp_step3 false 0 bd_rest3 := by
 refine sp_of (lf := 600) tb_mix (cfT_ok nat_come3_ok) (by rfl) (fun b j x h => by cases h) (fun S M nx K h => ?_)
 obtain ⟨p, h⟩ := exB_ok h
 obtain ⟨e, h9⟩ := mustP_ok h
 clear h
 have e1 : S = (I_rest3 p).1 := congrArg Prod.fst e
 have e2 : M = (I_rest3 p).2.1 := congrArg (fun x => x.2.1) e
 have e3 : nx = (I_rest3 p).2.2 := congrArg (fun x => x.2.2) e
 subst e1; subst e2; subst e3
 exact vb_rest3 p K (mustP_ok h9).1 (mustP_ok h9).2
def bd_mid3 : XC := bd_mid1
theorem vb_mid3 (p : A_mid3) (K : KC) (hpre : pre_mid3 p) (hK : out_mid3 p K = true) : (codeX (cfT nat_come3) lp_step3 600 bd_mid3 (I_mid3 p).1 (I_mid3 p).2.1 (I_mid3 p).2.2 K) = true := by
 refine Eq.trans (b := (iP (p.k = (2 : Int)) (iP ((0 : Int) < p.y) (iP (p.kk < (100 : Int)) (iP (p.y = 0) (mP (((.prow 3 p.f.fly.length) : SY) = (.prow 3 p.f.fly.length)) (mP (((.prow 3 p.f.fly.length) : SY) = (.prow 3 p.f.fly.length)) (mP (p.f.fly.length = p.f.fly.length) (exB fun m3 : List Told => mP (rowsR (m3.map encT) [[.int 0 (.ofNat 0), .sint 0 (p.f.s0.l.length : Int), .sint 0 p.y, .nilS]]) (mP (limP 48 (p.f.fly.length + m3.length)) (K 0 .nil (Fd3 ({ p.f with fly := p.f.fly ++ m3 } : F3) ((p.f.fly ++ m3).length) p.f.s0.l.length p.f.s1.l.length p.f.s2.l.length) 15)))))) (iP (p.y = 1) (mP (((.prow 3 p.f.fly.length) : SY) = (.prow 3 p.f.fly.length)) (mP (((.prow 3 p.f.fly.length) : SY) = (.prow 3 p.f.fly.length)) (mP (p.f.fly.length = p.f.fly.length) (exB fun m2 : List Told => mP (rowsR (m2.map encT) [[.int 0 (.ofNat 0), .sint 0 (p.f.s1.l.length : Int), .sint 0 p.y, .nilS]]) (mP (limP 48 (p.f.fly.length + m2.length)) (K 0 .nil (Fd3 ({ p.f with fly := p.f.fly ++ m2 } : F3) ((p.f.fly ++ m2).length) p.f.s0.l.length p.f.s1.l.length p.f.s2.l.length) 15)))))) (iP (p.y = 2) (mP (((.prow 3 p.f.fly.length) : SY) = (.prow 3 p.f.fly.length)) (mP (((.prow 3 p.f.fly.length) : SY) = (.prow 3 p.f.fly.length)) (mP (p.f.fly.length = p.f.fly.length) (exB fun m1 : List Told => mP (rowsR (m1.map encT) [[.int 0 (.ofNat 0), .sint 0 (p.f.s2.l.length : Int), .sint 0 p.y, .nilS]]) (mP (limP 48 (p.f.fly.length + m1.length)) (K 0 .nil (Fd3 ({ p.f with fly := p.f.fly ++ m1 } : F3) ((p.f.fly ++ m1).length) p.f.s0.l.length p.f.s1.l.length p.f.s2.l.length) 15)))))) (mP (False) (true))))) (useC (((.cons 5 (.sy (.int 0 p.kk)) (.cons 4 (.sy (.int 0 p.y)) (.cons 3 (.ptr 1 0) (.cons 0 (.ptr 0 0) .nil)))), (Fb3n p.f p.k p.x p.nn p.i), 16)) I_rest3 pre_rest3 po_rest3 fun p1 r1 => K 0 .nil (Fd3n r1.f) 15)) (useC (((.cons 5 (.sy (.int 0 p.kk)) (.cons 4 (.sy (.int 0 p.y)) (.cons 3 (.ptr 1 0) (.cons 0 (.ptr 0 0) .nil)))), (Fb3n p.f p.k p.x p.nn p.i), 16)) I_rest3 pre_rest3 po_rest3 fun p2 r2 => K 0 .nil (Fd3n r2.f) 15)) (useC (((.cons 5 (.sy (.int 0 p.kk)) (.cons 4 (.sy (.int 0 p.y)) (.cons 3 (.ptr 1 0) (.cons 0 (.ptr 0 0) .nil)))), (Fb3n p.f p.k p.x p.nn p.i), 16)) I_rest3 pre_rest3 po_rest3 fun p3 r3 => K 0 .nil (Fd3n r3.f) 15))) (by kernel_rfl) ?_
 dsimp only [pre_mid3] at hpre
 obtain ⟨hinv, k1, k2, k3, k4, k5⟩ := hpre
 have hinv : FInv p.f.s0 _ _ p.f.fly := hinv
 obtain ⟨hs, hfew, f0, f1, f2⟩ := fact3 hinv
 refine iI (fun hc1 => ?_) (fun hc1 => ?_)
 refine iI (fun hc2 => ?_) (fun hc2 => ?_)
 refine iI (fun hc3 => ?_) (fun hc3 => ?_)
 refine iI (fun hc4 => ?_) (fun hc4 => ?_)
 refine mI (rfl) (mI (rfl) (mI (rfl) ?_))
 refine exB_mk [⟨(0 : Int), (p.f.s0.l.length : Int), p.y, (.slice none 0 0), []⟩] ?_
 refine mI ((rows4 (.inr (.inl ⟨_, _, rfl, rfl⟩)) (.inl rfl) (.inl rfl) (.inr (.inr ⟨_, _, _, by decide, rfl, rfl⟩)))) (mI (by simp [limP]; omega) ?_)
 exact fin_mid3 hK ⟨({ p.f with fly := p.f.fly ++ [⟨(0 : Int), (p.f.s0.l.length : Int), p.y, (.slice none 0 0), []⟩] } : F3)⟩ (by dsimp only [po_mid3] <;> (first | (exfalso; omega) | exact ⟨(by first | exact ⟨tr_len (j := 0) hinv (by omega) rfl (by omega) rfl, Frz.refl _⟩ | exact ⟨tr_len (j := 1) hinv (by omega) rfl (by omega) rfl, Frz.refl _⟩ | exact ⟨tr_len (j := 2) hinv (by omega) rfl (by omega) rfl, Frz.refl _⟩), by first | rfl | exact hi0.2⟩))
 refine iI (fun hc5 => ?_) (fun hc5 => ?_)
 refine mI (rfl) (mI (rfl) (mI (rfl) ?_))
 refine exB_mk [⟨(0 : Int), (p.f.s1.l.length : Int), p.y, (.slice none 0 0), []⟩] ?_
 refine mI ((rows4 (.inr (.inl ⟨_, _, rfl, rfl⟩)) (.inl rfl) (.inl rfl) (.inr (.inr ⟨_, _, _, by decide, rfl, rfl⟩)))) (mI (by simp [limP]; omega) ?_)
 exact fin_mid3 hK ⟨({ p.f with fly := p.f.fly ++ [⟨(0 : Int), (p.f.s1.l.length : Int), p.y, (.slice none 0 0), []⟩] } : F3)⟩ (by dsimp only [po_mid3] <;> (first | (exfalso; omega) | exact ⟨(by first | exact ⟨tr_len (j := 0) hinv (by omega) rfl (by omega) rfl, Frz.refl _⟩ | exact ⟨tr_len (j := 1) hinv (by omega) rfl (by omega) rfl, Frz.refl _⟩ | exact ⟨tr_len (j := 2) hinv (by omega) rfl (by omega) rfl, Frz.refl _⟩), by first | rfl | exact hi0.2⟩))
 refine iI (fun hc6 => ?_) (fun hc6 => ?_)
 refine mI (rfl) (mI (rfl) (mI (rfl) ?_))
 refine exB_mk [⟨(0 : Int), (p.f.s2.l.length : Int), p.y, (.slice none 0 0), []⟩] ?_
 refine mI ((rows4 (.inr (.inl ⟨_, _, rfl, rfl⟩)) (.inl rfl) (.inl rfl) (.inr (.inr ⟨_, _, _, by decide, rfl, rfl⟩)))) (mI (by simp [limP]; omega) ?_)
 exact fin_mid3 hK ⟨({ p.f with fly := p.f.fly ++ [⟨(0 : Int), (p.f.s2.l.length : Int), p.y, (.slice none 0 0), []⟩] } : F3)⟩ (by dsimp only [po_mid3] <;> (first | (exfalso; omega) | exact ⟨(by first | exact ⟨tr_len (j := 0) hinv (by omega) rfl (by omega) rfl, Frz.refl _⟩ | exact ⟨tr_len (j := 1) hinv (by omega) rfl (by omega) rfl, Frz.refl _⟩ | exact ⟨tr_len (j := 2) hinv (by omega) rfl (by omega) rfl, Frz.refl _⟩), by first | rfl | exact hi0.2⟩))
 refine mI (by omega) ?_
 rfl
 refine callPR (⟨p.f, p.k, p.x, p.nn, p.i, p.y, p.kk⟩ : A_rest3) rfl (by (try dsimp only [pre_rest3]); exact ⟨hinv, by omega, by omega, by omega, by omega, by omega⟩) fun r1 hi7 => ?_
 dsimp only [po_rest3] at hi7
 exact fin_mid3 hK ⟨r1.f⟩ (by dsimp only [po_mid3] <;> (first | (exfalso; omega) | exact ⟨(by first | exact hi7.1), by first | rfl | exact hi7.2⟩))
 refine callPR (⟨p.f, p.k, p.x, p.nn, p.i, p.y, p.kk⟩ : A_rest3) rfl (by (try dsimp only [pre_rest3]); exact ⟨hinv, by omega, by omega, by omega, by omega, by omega⟩) fun r2 hi8 => ?_
 dsimp only [po_rest3] at hi8
 exact fin_mid3 hK ⟨r2.f⟩ (by dsimp only [po_mid3] <;> (first | (exfalso; omega) | exact ⟨(by first | exact hi8.1), by first | rfl | exact hi8.2⟩))
 refine callPR (⟨p.f, p.k, p.x, p.nn, p.i, p.y, p.kk⟩ : A_rest3) rfl (by (try dsimp only [pre_rest3]); exact ⟨hinv, by omega, by omega, by omega, by omega, by omega⟩) fun r3 hi9 => ?_
 dsimp only [po_rest3] at hi9
 exact fin_mid3 hK ⟨r3.f⟩ (by dsimp only [po_mid3] <;> (first | (exfalso; omega) | exact ⟨(by first | exact hi9.1), by first | rfl | exact hi9.2⟩))
theorem lo_mid3 : LpOk Try.prog 203 1 lp_step3 false 1 bd_mid3 := by
 refine sp_of (lf := 600) tb_mix (cfT_ok nat_come3_ok) (by rfl) (fun b j x h => (mem_step lo_rest3 (fun h => (by cases h)) h)) (fun S M nx K h => ?_)
 obtain ⟨p, h⟩ := exB_ok h
 obtain ⟨e, h9⟩ := mustP_ok h
 clear h
 have e1 : S = (I_mid3 p).1 := congrArg Prod.fst e
 have e2 : M = (I_mid3 p).2.1 := congrArg (fun x => x.2.1) e
 have e3 : nx = (I_mid3 p).2.2 := congrArg (fun x => x.2.2) e
 subst e1; subst e2; subst e3
 exact vb_mid3 p K (mustP_ok h9).1 (mustP_ok h9).2
structure A_step3 where
 f : F3
 k : Int
 x : Int
 nn : Int
 i : Int
structure R_step3 where
 f : F3
def po_step3 (p : A_step3) (r : R_step3) : Prop := (FI3 r.f ∧ Fr3 p.f r.f) ∧ 0 ≤ r.f.cnt ∧ r.f.cnt ≤ p.f.cnt + 1
noncomputable def I_step3 (p : A_step3) : IE := ([.ptr 0 0, .agg [.sy (.int 0 p.k), .sy (.int 0 p.x), .sy (.int 0 p.nn), .sy (.int 0 p.i)]], (Fd3n p.f), 15)
noncomputable def out_step3 (p : A_step3) (K : KE) : Bool := allB fun r : R_step3 => iP (po_step3 p r) (K (.tup []) (Fd3n r.f) 15) true
def pre_step3 (p : A_step3) : Prop := FI3 p.f ∧ 0 ≤ p.f.cnt ∧ p.f.cnt ≤ 1000000
theorem fin_step3 {p : A_step3} {K : KE} (hK : out_step3 p K = true) (r : R_step3) (h : po_step3 p r) : K (.tup []) (Fd3n r.f) 15 = true := ifB_use h (allB_ok hK r)
theorem vf_step3 (p : A_step3) (K : KE) (hpre : pre_step3 p) (hK : out_step3 p K = true) : (funE 1 (cfT nat_come3) lp_step3 600 ft_step3 (I_step3 p).1 (I_step3 p).2.1 (I_step3 p).2.2 K) = true := by
 refine Eq.trans (b := (let y0 : Int := (Int.tmod ((Int.tmod p.x (3 : Int)) + (3 : Int)) (3 : Int)); let y1 : Int := ((Int.tmod p.nn (3 : Int)) + (3 : Int)); mP ((3 : Int) ≠ 0) (mP (InR 0 ((Int.tmod p.x (3 : Int)) + (3 : Int))) (mP ((3 : Int) ≠ 0) (iP (p.k = (0 : Int)) (mP (InR 0 (p.f.cnt + (1 : Int))) (mP ((16 : Int) ≠ 0) (mP (InR 1 (Int.tmod (p.f.cnt + (1 : Int)) (16 : Int))) (useC (([.ptr 0 0, .agg [.int 1 (.ofNat 2), .int 1 (.ofNat 0), .int 2 (.ofNat 0), .int 3 (.ofNat 0), .int 1 (.ofNat 0), .int 1 (.ofNat 0), .int 1 (.ofNat 0), .int 1 (.ofNat 0), .int 1 (.ofNat 0), .int 1 (.ofNat 0), .int 1 (.ofNat 0), .int 3 (.ofNat 0), .nilS, .int 1 (.ofNat 0), .str [], .nilS, .sy (.int 1 (Int.tmod (p.f.cnt + (1 : Int)) (16 : Int))), .int 2 (.ofNat 1)]], (Ro3n p.f.s0.l p.f.s0.com p.f.s0.sh p.f.c0 p.f.c1 p.f.c2), 4)) I_add3 pre_add3 po_add3 fun p1 r1 => K (.tup []) (Fd3n ⟨⟨r1.l, r1.com, p1.sh⟩, p.f.s1, p.f.s2, r1.c0, p1.c1, p1.c2, p.f.fly, p.f.cnt + (1 : Int)⟩) 15)))) (iP (p.k = (1 : Int)) (iP ((0 : Int) < y0) (iP ((p.f.fly.length : Int) < (100 : Int)) (mP ((3 : Int) ≠ 0) (mP (InR 0 y1) (mP ((3 : Int) ≠ 0) (mP (InR 0 ((1 : Int) + (Int.tmod y1 (3 : Int)))) (mP (InR 1 y0) (mP (((.int 0 p.nn) : SY) = (.int 0 p.nn)) (useC (([.ptr 0 0, .agg [.sy (.int 1 y0), .int 2 (.ofNat 1)], .sy (.int 0 ((1 : Int) + (Int.tmod y1 (3 : Int))))], (Ro3n p.f.s0.l p.f.s0.com p.f.s0.sh p.f.c0 p.f.c1 p.f.c2), 4)) I_since3 pre_since3 po_since3 fun p2 r2 => mP (((.prow 2 p.f.fly.length) : SY) = (.prow 2 p.f.fly.length)) (mP (((.prow 2 p.f.fly.length) : SY) = (.prow 2 p.f.fly.length)) (mP (p.f.fly.length = p.f.fly.length) (exB fun m1 : List Told => mP (rowsR (m1.map encT) [[.sint 0 y0, .sint 0 r2.fr, .sint 0 p2.com, .imm r2.h 18 Int r2.o encK]]) (mP (limP 48 (p.f.fly.length + m1.length)) (K (.tup []) (Fd3 ⟨⟨p2.l, p2.com, p2.sh⟩, p.f.s1, p.f.s2, p2.c0, p2.c1, p2.c2, p.f.fly ++ m1, p.f.cnt⟩ ((p.f.fly ++ m1).length) p2.l.length p.f.s1.l.length p.f.s2.l.length) 15)))))))))))) (useC (((.cons 5 (.sy (.int 0 (p.f.fly.length : Int))) (.cons 4 (.sy (.int 0 y0)) (.cons 3 (.ptr 1 0) (.cons 0 (.ptr 0 0) .nil)))), (Fb3n p.f p.k p.x p.nn p.i), 16)) I_mid3 pre_mid3 po_mid3 fun p3 r3 => K (.tup []) (Fd3n r3.f) 15)) (useC (((.cons 5 (.sy (.int 0 (p.f.fly.length : Int))) (.cons 4 (.sy (.int 0 y0)) (.cons 3 (.ptr 1 0) (.cons 0 (.ptr 0 0) .nil)))), (Fb3n p.f p.k p.x p.nn p.i), 16)) I_mid3 pre_mid3 po_mid3 fun p4 r4 => K (.tup []) (Fd3n r4.f) 15)) (useC (((.cons 5 (.sy (.int 0 (p.f.fly.length : Int))) (.cons 4 (.sy (.int 0 y0)) (.cons 3 (.ptr 1 0) (.cons 0 (.ptr 0 0) .nil)))), (Fb3n p.f p.k p.x p.nn p.i), 16)) I_mid3 pre_mid3 po_mid3 fun p5 r5 => K (.tup []) (Fd3n r5.f) 15))))))) (by kernel_rfl) ?_
 dsimp only [pre_step3] at hpre
 obtain ⟨hinv, k1, k2⟩ := hpre
 have hinv : FInv p.f.s0 _ _ p.f.fly := hinv
 obtain ⟨hs, hfew, f0, f1, f2⟩ := fact3 hinv
 have t1 := tmb 3 (by decide) p.x
 have t2 := tmp 3 (by decide) (p.x.tmod 3 + 3) (by omega)
 have t3 := tmb 3 (by decide) p.nn
 have t4 := tmp 3 (by decide) (p.nn.tmod 3 + 3) (by omega)
 have t5 := tmp 16 (by decide) (p.f.cnt + 1) (by omega)
 refine mI (by decide) (mI (by simp only [InR]; omega) (mI (by decide) ?_))
 refine iI (fun hc1 => ?_) (fun hc1 => ?_)
 refine mI (by simp only [InR]; omega) (mI (by decide) (mI (by simp only [InR]; omega) ?_))
 refine callPR (⟨p.f.s0.l, p.f.s0.com, p.f.s0.sh, p.f.c0, p.f.c1, p.f.c2, Int.tmod (p.f.cnt + (1 : Int)) (16 : Int)⟩ : A_add3) rfl (by (try dsimp only [pre_add3]); omega) fun r1 hi2 => ?_
 dsimp only [po_add3] at hi2
 exact fin_step3 hK ⟨⟨⟨r1.l, r1.com, p.f.s0.sh⟩, p.f.s1, p.f.s2, r1.c0, p.f.c1, p.f.c2, p.f.fly, p.f.cnt + (1 : Int)⟩⟩ (by dsimp only [po_step3] <;> (refine ⟨?_, by omega, by omega⟩; first | (exfalso; omega) | exact tr_add (maj := 2) hinv (by simp) (by assumption)))
 refine iI (fun hc3 => ?_) (fun hc3 => ?_)
 refine iI (fun hc4 => ?_) (fun hc4 => ?_)
 refine iI (fun hc5 => ?_) (fun hc5 => ?_)
 refine mI (by decide) (mI (by simp only [InR]; omega) (mI (by decide) (mI (by simp only [InR]; omega) (mI (by simp only [InR]; omega) (mI (rfl) ?_)))))
 refine callPR (⟨p.f.s0.l, p.f.s0.com, p.f.s0.sh, p.f.c0, p.f.c1, p.f.c2, Int.tmod ((Int.tmod p.x (3 : Int)) + (3 : Int)) (3 : Int), (1 : Int) + (Int.tmod ((Int.tmod p.nn (3 : Int)) + (3 : Int)) (3 : Int))⟩ : A_since3) rfl (by (try dsimp only [pre_since3]); omega) fun r2 hi6 => ?_
 dsimp only [po_since3] at hi6
 refine mI (rfl) (mI (rfl) (mI (rfl) ?_))
 refine exB_mk [⟨Int.tmod ((Int.tmod p.x (3 : Int)) + (3 : Int)) (3 : Int), r2.fr, p.f.s0.com, r2.h, r2.o⟩] ?_
 refine mI ((rows4 (.inl rfl) (.inl rfl) (.inl rfl) (.inl rfl))) (mI (by simp [limP]; omega) ?_)
 exact fin_step3 hK ⟨⟨⟨p.f.s0.l, p.f.s0.com, p.f.s0.sh⟩, p.f.s1, p.f.s2, p.f.c0, p.f.c1, p.f.c2, p.f.fly ++ [⟨Int.tmod ((Int.tmod p.x (3 : Int)) + (3 : Int)) (3 : Int), r2.fr, p.f.s0.com, r2.h, r2.o⟩], p.f.cnt⟩⟩ (by dsimp only [po_step3] <;> (refine ⟨?_, by omega, by omega⟩; first | (exfalso; omega) | exact ⟨tr_since (m := 3) hinv (by omega) (by simp) (by omega) (by assumption), Frz.refl _⟩))
 refine callPR (⟨p.f, p.k, p.x, p.nn, p.i, Int.tmod ((Int.tmod p.x (3 : Int)) + (3 : Int)) (3 : Int), (p.f.fly.length : Int)⟩ : A_mid3) rfl (by (try dsimp only [pre_mid3]); exact ⟨hinv, by omega, by omega, by omega, by omega, by omega⟩) fun r3 hi7 => ?_
 dsimp only [po_mid3] at hi7
 exact fin_step3 hK ⟨r3.f⟩ (by dsimp only [po_step3] <;> (refine ⟨?_, by omega, by omega⟩; first | (exfalso; omega) | exact hi7.1))
 refine callPR (⟨p.f, p.k, p.x, p.nn, p.i, Int.tmod ((Int.tmod p.x (3 : Int)) + (3 : Int)) (3 : Int), (p.f.fly.length : Int)⟩ : A_mid3) rfl (by (try dsimp only [pre_mid3]); exact ⟨hinv, by omega, by omega, by omega, by omega, by omega⟩) fun r4 hi8 => ?_
 dsimp only [po_mid3] at hi8
 exact fin_step3 hK ⟨r4.f⟩ (by dsimp only [po_step3] <;> (refine ⟨?_, by omega, by omega⟩; first | (exfalso; omega) | exact hi8.1))
 refine callPR (⟨p.f, p.k, p.x, p.nn, p.i, Int.tmod ((Int.tmod p.x (3 : Int)) + (3 : Int)) (3 : Int), (p.f.fly.length : Int)⟩ : A_mid3) rfl (by (try dsimp only [pre_mid3]); exact ⟨hinv, by omega, by omega, by omega, by omega, by omega⟩) fun r5 hi9 => ?_
 dsimp only [po_mid3] at hi9
 exact fin_step3 hK ⟨r5.f⟩ (by dsimp only [po_step3] <;> (refine ⟨?_, by omega, by omega⟩; first | (exfalso; omega) | exact hi9.1))
noncomputable def ec_step3 : SpecE := tstE (elB 1 3) (esOf I_step3 (spP pre_step3 out_step3)) ec_step2
theorem nc_step3 : NatE Try.prog 28 1 ec_step3 := tstE_ok (natE_said (f := 28) (k := 1) (lp := lp_step3) (lf := 600) tb_mix (cfT_ok nat_come3_ok) ft_step3_ok (by rfl) (fun b j x h => (mem_step lo_mid3 (fun h => (by cases h)) h)) fun p K h => vf_step3 p K (mustP_ok h).1 (mustP_ok h).2) nc_step2
noncomputable def nat_step3 := natC nat_come3 1 ec_step3 28 [(0, 4), (1, 15)]
theorem nat_step3_ok : NatsOk Try.prog nat_step3 := natC_ok nc_step3 nat_come3_ok
def ft_come4 : XF := ft_come1
theorem ft_come4_ok : chkF Try.prog 41 ft_come4 = true := ft_come1_ok
structure A_come4 where
 f : F4
 t : Told
structure R_come4 where
 f : F4
def po_come4 (p : A_come4) (r : R_come4) : Prop := (FI4 r.f ∧ Fr4 p.f r.f) ∧ r.f.cnt = p.f.cnt
noncomputable def I_come4 (p : A_come4) : IE := ([.ptr 0 0, .agg [.sy (.int 0 p.t.to), .sy (.int 0 p.t.fr), .sy (.int 0 p.t.c), .sy (.imm p.t.h 18 Int p.t.l encK)]], (Fd4n p.f), 19)
noncomputable def out_come4 (p : A_come4) (K : KE) : Bool := allB fun r : R_come4 => iP (po_come4 p r) (K (.tup []) (Fd4n r.f) 19) true
def pre_come4 (p : A_come4) : Prop := FI4 p.f ∧ MsgOk p.f.s0 [p.f.s1, p.f.s2, p.f.s3] p.t
theorem fin_come4 {p : A_come4} {K : KE} (hK : out_come4 p K = true) (r : R_come4) (h : po_come4 p r) : K (.tup []) (Fd4n r.f) 19 = true := ifB_use h (allB_ok hK r)
theorem vf_come4 (p : A_come4) (K : KE) (hpre : pre_come4 p) (hK : out_come4 p K = true) : (funE 1 (cfT nat_step3) noLp 600 ft_come4 (I_come4 p).1 (I_come4 p).2.1 (I_come4 p).2.2 K) = true := by
 refine Eq.trans (b := (iP (p.t.to = (0 : Int)) (mP (InR 1 p.t.c) (mP (((.int 0 p.t.fr) : SY) = (.int 0 p.t.fr)) (useC (([.ptr 0 0, .agg [.sy (.int 1 p.t.c), .int 2 (.ofNat 1)], .sy (.int 0 p.t.fr)], (Ro4n p.f.s0.l p.f.s0.com p.f.s0.sh p.f.c0 p.f.c1 p.f.c2 p.f.c3), 4)) I_ack4 pre_ack4 po_ack4 fun p1 r1 => K (.tup []) (Fd4n ({ p.f with s0 := ⟨p1.l, r1.com, p1.sh⟩, c0 := r1.c0, c1 := r1.c1, c2 := r1.c2, c3 := r1.c3 } : F4)) 19))) (iP (p.t.to = 0) (exB fun p5 : A_take4 => mP (([.ptr 0 0, .sy (.int 0 p.t.fr), .sy (.imm p.t.h 18 Int p.t.l encK), .sy (.int 0 p.t.c)], (Ro4n p.f.s0.l p.f.s0.com p.f.s0.sh p.f.c0 p.f.c1 p.f.c2 p.f.c3), 4) = I_take4 p5) (mP (pre_take4 p5) (allB fun r5 : R_take4 => iP (po_take4 p5 r5) (K (.tup []) (.node (.node (.node (.node (.node .leaf (some (.map [(.agg [.int 1 (.ofNat 0), .int 2 (.ofNat 1)], .sy (.int 0 0), 0), (.agg [.int 1 (.ofNat 1), .int 2 (.ofNat 1)], .sy (.int 0 0), 1), (.agg [.int 1 (.ofNat 2), .int 2 (.ofNat 1)], .sy (.int 0 0), 2), (.agg [.int 1 (.ofNat 3), .int 2 (.ofNat 1)], .sy (.int 0 0), 3)] 4)) .leaf) (some (.blk true 31 2 [[.int 1 (.ofNat 0), .int 2 (.ofNat 1)], [.int 1 (.ofNat 1), .int 2 (.ofNat 1)], [.int 1 (.ofNat 2), .int 2 (.ofNat 1)], [.int 1 (.ofNat 3), .int 2 (.ofNat 1)]])) .leaf) (some (.blk false 67 10 [[.int 1 (.ofNat 0), .int 3 (.ofNat 1), .sl 7 0 4 (.rest 0), .sy (.int 1 p5.me), .int 2 (.ofNat 1), .sy (.prow 8 r5.l.length), .int 0 (.ofNat 0), .sy (.int 0 r5.com), .sy (.bool p5.sh), .map 9]])) (.node .leaf (some (.prow 45 18 Int p.f.s1.l encK)) .leaf)) (some (.blk true 22 1 [[.ptr 3 0], [.ptr 4 0], [.ptr 5 0], [.ptr 6 0]])) (.node (.node (.node .leaf (some (.prow 45 18 Int p.f.s3.l encK)) .leaf) (some (.map [(.agg [.int 1 (.ofNat 0), .int 2 (.ofNat 1)], .sy (.int 0 p5.c0), 0), (.agg [.int 1 (.ofNat 1), .int 2 (.ofNat 1)], .sy (.int 0 p5.c1), 1), (.agg [.int 1 (.ofNat 2), .int 2 (.ofNat 1)], .sy (.int 0 p5.c2), 2), (.agg [.int 1 (.ofNat 3), .int 2 (.ofNat 1)], .sy (.int 0 p5.c3), 3)] 4)) .leaf) (some (.blk false 67 10 [[.int 1 (.ofNat 0), .int 3 (.ofNat 1), .sl 13 0 4 (.rest 0), .sy (.int 1 2), .int 2 (.ofNat 1), .sy (.prow 14 p.f.s2.l.length), .int 0 (.ofNat 0), .sy (.int 0 p.f.s2.com), .sy (.bool p.f.s2.sh), .map 15]])) (.node .leaf (some (.blk true 31 2 [[.int 1 (.ofNat 0), .int 2 (.ofNat 1)], [.int 1 (.ofNat 1), .int 2 (.ofNat 1)], [.int 1 (.ofNat 2), .int 2 (.ofNat 1)], [.int 1 (.ofNat 3), .int 2 (.ofNat 1)]])) .leaf))) (some (.blk false 81 3 [[.sl 1 0 4 (.rest 0), .sy (.prow 2 p.f.fly.length), .sy (.int 0 p.f.cnt)]])) (.node (.node (.node (.node .leaf (some (.blk true 31 2 [[.int 1 (.ofNat 0), .int 2 (.ofNat 1)], [.int 1 (.ofNat 1), .int 2 (.ofNat 1)], [.int 1 (.ofNat 2), .int 2 (.ofNat 1)], [.int 1 (.ofNat 3), .int 2 (.ofNat 1)]])) .leaf) (some (.prow 45 18 Int r5.l encK)) .leaf) (some (.blk false 67 10 [[.int 1 (.ofNat 0), .int 3 (.ofNat 1), .sl 10 0 4 (.rest 0), .sy (.int 1 1), .int 2 (.ofNat 1), .sy (.prow 11 p.f.s1.l.length), .int 0 (.ofNat 0), .sy (.int 0 p.f.s1.com), .sy (.bool p.f.s1.sh), .map 12]])) (.node .leaf (some (.map [(.agg [.int 1 (.ofNat 0), .int 2 (.ofNat 1)], .sy (.int 0 0), 0), (.agg [.int 1 (.ofNat 1), .int 2 (.ofNat 1)], .sy (.int 0 0), 1), (.agg [.int 1 (.ofNat 2), .int 2 (.ofNat 1)], .sy (.int 0 0), 2), (.agg [.int 1 (.ofNat 3), .int 2 (.ofNat 1)], .sy (.int 0 0), 3)] 4)) .leaf)) (some (.prow 100 4 Told p.f.fly encT)) (.node (.node (.node .leaf (some (.map [(.agg [.int 1 (.ofNat 0), .int 2 (.ofNat 1)], .sy (.int 0 0), 0), (.agg [.int 1 (.ofNat 1), .int 2 (.ofNat 1)], .sy (.int 0 0), 1), (.agg [.int 1 (.ofNat 2), .int 2 (.ofNat 1)], .sy (.int 0 0), 2), (.agg [.int 1 (.ofNat 3), .int 2 (.ofNat 1)], .sy (.int 0 0), 3)] 4)) .leaf) (some (.blk true 31 2 [[.int 1 (.ofNat 0), .int 2 (.ofNat 1)], [.int 1 (.ofNat 1), .int 2 (.ofNat 1)], [.int 1 (.ofNat 2), .int 2 (.ofNat 1)], [.int 1 (.ofNat 3), .int 2 (.ofNat 1)]])) .leaf) (some (.blk false 67 10 [[.int 1 (.ofNat 0), .int 3 (.ofNat 1), .sl 16 0 4 (.rest 0), .sy (.int 1 3), .int 2 (.ofNat 1), .sy (.prow 17 p.f.s3.l.length), .int 0 (.ofNat 0), .sy (.int 0 p.f.s3.com), .sy (.bool p.f.s3.sh), .map 18]])) (.node .leaf (some (.prow 45 18 Int p.f.s2.l encK)) .leaf)))) 19) true))) (iP (p.t.to = 1) (useC (([.ptr 0 0, .sy (.int 0 p.t.fr), .sy (.imm p.t.h 18 Int p.t.l encK), .sy (.int 0 p.t.c)], (Rm4n p.f.s1.l p.f.s1.com p.f.s1.sh 0 0 0 0 1), 4)) I_take4 pre_take4 po_take4 fun p4 r4 => K (.tup []) (Fg4 ({ p.f with s1 := ⟨r4.l, r4.com, p4.sh⟩ } : F4) p4.me p4.c0 p4.c1 p4.c2 p4.c3 2 0 0 0 0 3 0 0 0 0 p.f.fly.length p.f.s0.l.length r4.l.length p.f.s2.l.length p.f.s3.l.length) 19) (iP (p.t.to = 2) (useC (([.ptr 0 0, .sy (.int 0 p.t.fr), .sy (.imm p.t.h 18 Int p.t.l encK), .sy (.int 0 p.t.c)], (Rm4n p.f.s2.l p.f.s2.com p.f.s2.sh 0 0 0 0 2), 4)) I_take4 pre_take4 po_take4 fun p3 r3 => K (.tup []) (Fg4 ({ p.f with s2 := ⟨r3.l, r3.com, p3.sh⟩ } : F4) 1 0 0 0 0 p3.me p3.c0 p3.c1 p3.c2 p3.c3 3 0 0 0 0 p.f.fly.length p.f.s0.l.length p.f.s1.l.length r3.l.length p.f.s3.l.length) 19) (iP (p.t.to = 3) (useC (([.ptr 0 0, .sy (.int 0 p.t.fr), .sy (.imm p.t.h 18 Int p.t.l encK), .sy (.int 0 p.t.c)], (Rm4n p.f.s3.l p.f.s3.com p.f.s3.sh 0 0 0 0 3), 4)) I_take4 pre_take4 po_take4 fun p2 r2 => K (.tup []) (Fg4 ({ p.f with s3 := ⟨r2.l, r2.com, p2.sh⟩ } : F4) 1 0 0 0 0 2 0 0 0 0 p2.me p2.c0 p2.c1 p2.c2 p2.c3 p.f.fly.length p.f.s0.l.length p.f.s1.l.length p.f.s2.l.length r2.l.length) 19) (mP (False) (true)))))))) (by kernel_rfl) ?_
 dsimp only [pre_come4] at hpre
 obtain ⟨hinv, hm⟩ := hpre
 have hinv : FInv p.f.s0 _ _ p.f.fly := hinv
 obtain ⟨hs, hfew, f0, f1, f2, f3⟩ := fact4 hinv
 have hm2 := hm.flat hs
 simp only [List.length_cons, List.length_nil, List.length_singleton] at hm2
 refine iI (fun hc1 => ?_) (fun hc1 => ?_)
 refine mI (by simp only [InR]; omega) (mI (rfl) ?_)
 refine callPR (⟨p.f.s0.l, p.f.s0.com, p.f.s0.sh, p.f.c0, p.f.c1, p.f.c2, p.f.c3, p.t.c, p.t.fr⟩ : A_ack4) rfl (by (try dsimp only [pre_ack4]); omega) fun r1 hi2 => ?_
 dsimp only [po_ack4] at hi2
 exact fin_come4 hK ⟨({ p.f with s0 := ⟨p.f.s0.l, r1.com, p.f.s0.sh⟩, c0 := r1.c0, c1 := r1.c1, c2 := r1.c2, c3 := r1.c3 } : F4)⟩ (by dsimp only [po_come4] <;> (first | (exfalso; omega) | exact ⟨tr_ack (maj := 3) (m := 4) hinv (by simp) (by simp) hm (by assumption) (by assumption), rfl⟩))
 refine iI (fun hc3 => ?_) (fun hc3 => ?_)
 exfalso; omega
 refine iI (fun hc4 => ?_) (fun hc4 => ?_)
 refine callPR (⟨p.f.s1.l, p.f.s1.com, p.f.s1.sh, (0 : Int), (0 : Int), (0 : Int), (0 : Int), (1 : Int), p.t.fr, p.t.h, p.t.l, p.t.c⟩ : A_take4) rfl (by (try dsimp only [pre_take4]); omega) fun r4 hi5 => ?_
 dsimp only [po_take4] at hi5
 exact fin_come4 hK ⟨({ p.f with s1 := ⟨r4.l, r4.com, p.f.s1.sh⟩ } : F4)⟩ (by dsimp only [po_come4] <;> (first | (exfalso; omega) | exact ⟨tr_take (i := 0) hinv rfl hm (by assumption) (by assumption), rfl⟩))
 refine iI (fun hc6 => ?_) (fun hc6 => ?_)
 refine callPR (⟨p.f.s2.l, p.f.s2.com, p.f.s2.sh, (0 : Int), (0 : Int), (0 : Int), (0 : Int), (2 : Int), p.t.fr, p.t.h, p.t.l, p.t.c⟩ : A_take4) rfl (by (try dsimp only [pre_take4]); omega) fun r3 hi7 => ?_
 dsimp only [po_take4] at hi7
 exact fin_come4 hK ⟨({ p.f with s2 := ⟨r3.l, r3.com, p.f.s2.sh⟩ } : F4)⟩ (by dsimp only [po_come4] <;> (first | (exfalso; omega) | exact ⟨tr_take (i := 1) hinv rfl hm (by assumption) (by assumption), rfl⟩))
 refine iI (fun hc8 => ?_) (fun hc8 => ?_)
 refine callPR (⟨p.f.s3.l, p.f.s3.com, p.f.s3.sh, (0 : Int), (0 : Int), (0 : Int), (0 : Int), (3 : Int), p.t.fr, p.t.h, p.t.l, p.t.c⟩ : A_take4) rfl (by (try dsimp only [pre_take4]); omega) fun r2 hi9 => ?_
 dsimp only [po_take4] at hi9
 exact fin_come4 hK ⟨({ p.f with s3 := ⟨r2.l, r2.com, p.f.s3.sh⟩ } : F4)⟩ (by dsimp only [po_come4] <;> (first | (exfalso; omega) | exact ⟨tr_take (i := 2) hinv rfl hm (by assumption) (by assumption), rfl⟩))
 refine mI (by omega) ?_
 rfl
noncomputable def ec_come4 : SpecE := tstE (elB 1 4) (esOf I_come4 (spP pre_come4 out_come4)) ec_come3
theorem nc_come4 : NatE Try.prog 41 1 ec_come4 := tstE_ok (natE_pl (f := 41) (k := 1) (cfT_ok nat_step3_ok) ft_come4_ok (by rfl) (by rfl) vf_come4) nc_come3
noncomputable def nat_come4 := natC nat_step3 1 ec_come4 41 [(0, 4), (1, 15)]
theorem nat_come4_ok : NatsOk Try.prog nat_come4 := natC_ok nc_come4 nat_step3_ok
def ft_step4 : XF := ft_step1
theorem ft_step4_ok : chkF Try.prog 28 ft_step4 = true := ft_step1_ok
structure A_rest4 where
 f : F4
 k : Int
 x : Int
 nn : Int
 i : Int
 y : Int
 kk : Int
structure R_rest4 where
 f : F4
def po_rest4 (p : A_rest4) (r : R_rest4) : Prop := (FI4 r.f ∧ Fr4 p.f r.f) ∧ r.f.cnt = p.f.cnt
noncomputable def I_rest4 (p : A_rest4) : IL := ((.cons 5 (.sy (.int 0 p.kk)) (.cons 4 (.sy (.int 0 p.y)) (.cons 3 (.ptr 1 0) (.cons 0 (.ptr 0 0) .nil)))), (Fb4n p.f p.k p.x p.nn p.i), 20)
noncomputable def out_rest4 (p : A_rest4) (K : KC) : Bool := allB fun r : R_rest4 => iP (po_rest4 p r) (K 0 .nil (Fd4n r.f) 19) true
def pre_rest4 (p : A_rest4) : Prop := FI4 p.f ∧ 0 ≤ p.f.cnt ∧ p.f.cnt ≤ 1000000 ∧ 0 ≤ p.y ∧ p.y < 4 ∧ p.kk = (p.f.fly.length : Int)
theorem fin_rest4 {p : A_rest4} {K : KC} (hK : out_rest4 p K = true) (r : R_rest4) (h : po_rest4 p r) : K 0 .nil (Fd4n r.f) 19 = true := ifB_use h (allB_ok hK r)
noncomputable def sp_rest4 (p : A_rest4) (K : KC) : Bool := must (prB (pre_rest4 p)) (out_rest4 p K)
structure A_mid4 where
 f : F4
 k : Int
 x : Int
 nn : Int
 i : Int
 y : Int
 kk : Int
structure R_mid4 where
 f : F4
def po_mid4 (p : A_mid4) (r : R_mid4) : Prop := (FI4 r.f ∧ Fr4 p.f r.f) ∧ r.f.cnt = p.f.cnt
noncomputable def I_mid4 (p : A_mid4) : IL := ((.cons 5 (.sy (.int 0 p.kk)) (.cons 4 (.sy (.int 0 p.y)) (.cons 3 (.ptr 1 0) (.cons 0 (.ptr 0 0) .nil)))), (Fb4n p.f p.k p.x p.nn p.i), 20)
noncomputable def out_mid4 (p : A_mid4) (K : KC) : Bool := allB fun r : R_mid4 => iP (po_mid4 p r) (K 0 .nil (Fd4n r.f) 19) true
def pre_mid4 (p : A_mid4) : Prop := FI4 p.f ∧ 0 ≤ p.f.cnt ∧ p.f.cnt ≤ 1000000 ∧ 0 ≤ p.y ∧ p.y < 4 ∧ p.kk = (p.f.fly.length : Int)
theorem fin_mid4 {p : A_mid4} {K : KC} (hK : out_mid4 p K = true) (r : R_mid4) (h : po_mid4 p r) : K 0 .nil (Fd4n r.f) 19 = true := ifB_use h (allB_ok hK r)
noncomputable def sp_mid4 (p : A_mid4) (K : KC) : Bool := must (prB (pre_mid4 p)) (out_mid4 p K)
noncomputable def lp_step4 : LpF := fun j S M nx K => (Bool.rec ((Bool.rec (false) (exB fun p : A_mid4 => must (prB ((S, M, nx) = I_mid4 p)) (sp_mid4 p K)) (Nat.beq j 1))) (exB fun p : A_rest4 => must (prB ((S, M, nx) = I_rest4 p)) (sp_rest4 p K)) (Nat.beq j 0))
def bd_rest4 : XC := bd_rest1
theorem vb_rest4 (p : A_rest4) (K : KC) (hpre : pre_rest4 p) (hK : out_rest4 p K = true) : (codeX (cfT nat_come4) lp_step4 600 bd_rest4 (I_rest4 p).1 (I_rest4 p).2.1 (I_rest4 p).2.2 K) = true := by
 refine Eq.trans (b := (let y0 : Int := (Int.tmod ((Int.tmod p.i p.kk) + p.kk) p.kk); iP (p.k = (7 : Int)) (iP (p.y = 0) (K 0 .nil (Fd4n ({ p.f with s0 := ({ p.f.s0 with sh := true = true } : Rl) } : F4)) 19) (iP (p.y = 1) (K 0 .nil (Fd4n ({ p.f with s1 := ({ p.f.s1 with sh := true = true } : Rl) } : F4)) 19) (iP (p.y = 2) (K 0 .nil (Fd4n ({ p.f with s2 := ({ p.f.s2 with sh := true = true } : Rl) } : F4)) 19) (iP (p.y = 3) (K 0 .nil (Fd4n ({ p.f with s3 := ({ p.f.s3 with sh := true = true } : Rl) } : F4)) 19) (mP (False) (true)))))) (iP ((3 : Int) ≤ p.k) (iP ((0 : Int) < p.kk) (mP (p.kk ≠ 0) (mP (InR 0 ((Int.tmod p.i p.kk) + p.kk)) (mP (p.kk ≠ 0) (mP (0 ≤ y0 ∧ y0 < (p.f.fly.length : Int)) (mP ((y0.toNat) < p.f.fly.length) (allB fun x1 : Told => iP (p.f.fly[y0.toNat]? = some x1) (iP (¬ p.k = (5 : Int)) (mP (p.f.fly.length = p.f.fly.length ∧ 0 ≤ (0 : Int) ∧ (0 : Int) ≤ y0 ∧ y0 ≤ (p.f.fly.length : Int)) (mP (InR 0 (y0 + (1 : Int))) (mP (p.f.fly.length = p.f.fly.length ∧ 0 ≤ (y0 + (1 : Int)) ∧ (y0 + (1 : Int)) ≤ (p.f.fly.length : Int) ∧ (p.f.fly.length : Int) ≤ (p.f.fly.length : Int)) (mP (((.prow 3 p.f.fly.length) : SY) = (.prow 3 p.f.fly.length)) (mP (p.f.fly.length = p.f.fly.length ∧ 0 ≤ (0 : Int) ∧ (0 : Int) ≤ y0 ∧ y0 ≤ (p.f.fly.length : Int)) (mP (((.psub 3 4 0 ((y0.toNat) - 0)) : SY) = (.psub 3 4 0 ((y0.toNat) - 0))) (mP (((.prow 3 p.f.fly.length) : SY) = (.prow 3 p.f.fly.length)) (mP (p.f.fly.length = p.f.fly.length ∧ 0 ≤ (y0 + (1 : Int)) ∧ (y0 + (1 : Int)) ≤ (p.f.fly.length : Int) ∧ (p.f.fly.length : Int) ≤ (p.f.fly.length : Int)) (mP (((.psub 3 4 ((y0 + (1 : Int)).toNat) (p.f.fly.length - ((y0 + (1 : Int)).toNat))) : SY) = (.psub 3 4 ((y0 + (1 : Int)).toNat) (p.f.fly.length - ((y0 + (1 : Int)).toNat)))) (mP (0 + ((y0.toNat) - 0) ≤ p.f.fly.length) (iP (((p.f.fly.drop 0).take ((y0.toNat) - 0)) = []) (mP (((.prow 3 p.f.fly.length) : SY) = (.prow 3 p.f.fly.length)) (mP (p.f.fly.length = p.f.fly.length ∧ 0 ≤ (y0 + (1 : Int)) ∧ (y0 + (1 : Int)) ≤ (p.f.fly.length : Int) ∧ (p.f.fly.length : Int) ≤ (p.f.fly.length : Int)) (mP (((.psub 3 4 ((y0 + (1 : Int)).toNat) (p.f.fly.length - ((y0 + (1 : Int)).toNat))) : SY) = (.psub 3 4 ((y0 + (1 : Int)).toNat) (p.f.fly.length - ((y0 + (1 : Int)).toNat)))) (mP (((y0 + (1 : Int)).toNat) + (p.f.fly.length - ((y0 + (1 : Int)).toNat)) ≤ p.f.fly.length) (iP (((p.f.fly.drop ((y0 + (1 : Int)).toNat)).take (p.f.fly.length - ((y0 + (1 : Int)).toNat))) = []) (mP ((.sl 21 0 0 (.ex 0) : AV) = (.sl 21 0 0 (.ex 0) : AV)) (iP (¬ p.k = (6 : Int)) (useC (([.ptr 0 0, .agg [.sy (.int 0 x1.to), .sy (.int 0 x1.fr), .sy (.int 0 x1.c), .sy (.imm x1.h 18 Int x1.l encK)]], (Fd4 ({ p.f with fly := ([] : List Told) } : F4) 0 p.f.s0.l.length p.f.s1.l.length p.f.s2.l.length p.f.s3.l.length), 19)) I_come4 pre_come4 po_come4 fun p1 r1 => K 0 .nil (Fd4n r1.f) 19) (K 0 .nil (Fd4 ({ p.f with fly := ([] : List Told) } : F4) 0 p.f.s0.l.length p.f.s1.l.length p.f.s2.l.length p.f.s3.l.length) 19))) (mP (limP 48 ((p.f.fly.drop ((y0 + (1 : Int)).toNat)).take (p.f.fly.length - ((y0 + (1 : Int)).toNat))).length) (iP (¬ p.k = (6 : Int)) (useC (([.ptr 0 0, .agg [.sy (.int 0 x1.to), .sy (.int 0 x1.fr), .sy (.int 0 x1.c), .sy (.imm x1.h 18 Int x1.l encK)]], (Fd4 ({ p.f with fly := (p.f.fly.drop ((y0 + (1 : Int)).toNat)).take (p.f.fly.length - ((y0 + (1 : Int)).toNat)) } : F4) (((p.f.fly.drop ((y0 + (1 : Int)).toNat)).take (p.f.fly.length - ((y0 + (1 : Int)).toNat))).length) p.f.s0.l.length p.f.s1.l.length p.f.s2.l.length p.f.s3.l.length), 19)) I_come4 pre_come4 po_come4 fun p2 r2 => K 0 .nil (Fd4n r2.f) 19) (K 0 .nil (Fd4 ({ p.f with fly := (p.f.fly.drop ((y0 + (1 : Int)).toNat)).take (p.f.fly.length - ((y0 + (1 : Int)).toNat)) } : F4) (((p.f.fly.drop ((y0 + (1 : Int)).toNat)).take (p.f.fly.length - ((y0 + (1 : Int)).toNat))).length) p.f.s0.l.length p.f.s1.l.length p.f.s2.l.length p.f.s3.l.length) 19)))))))) (mP (limP 48 ((p.f.fly.drop 0).take ((y0.toNat) - 0)).length) (mP (((.prow 3 p.f.fly.length) : SY) = (.prow 3 p.f.fly.length)) (mP (p.f.fly.length = p.f.fly.length ∧ 0 ≤ (y0 + (1 : Int)) ∧ (y0 + (1 : Int)) ≤ (p.f.fly.length : Int) ∧ (p.f.fly.length : Int) ≤ (p.f.fly.length : Int)) (mP (((.psub 3 4 ((y0 + (1 : Int)).toNat) (p.f.fly.length - ((y0 + (1 : Int)).toNat))) : SY) = (.psub 3 4 ((y0 + (1 : Int)).toNat) (p.f.fly.length - ((y0 + (1 : Int)).toNat)))) (mP (((y0 + (1 : Int)).toNat) + (p.f.fly.length - ((y0 + (1 : Int)).toNat)) ≤ p.f.fly.length) (mP ((((p.f.fly.drop 0).take ((y0.toNat) - 0)).length) = ((p.f.fly.drop 0).take ((y0.toNat) - 0)).length) (iP (((p.f.fly.drop ((y0 + (1 : Int)).toNat)).take (p.f.fly.length - ((y0 + (1 : Int)).toNat))) = []) (iP (¬ p.k = (6 : Int)) (useC (([.ptr 0 0, .agg [.sy (.int 0 x1.to), .sy (.int 0 x1.fr), .sy (.int 0 x1.c), .sy (.imm x1.h 18 Int x1.l encK)]], (Fd4 ({ p.f with fly := (p.f.fly.drop 0).take ((y0.toNat) - 0) } : F4) (((p.f.fly.drop 0).take ((y0.toNat) - 0)).length) p.f.s0.l.length p.f.s1.l.length p.f.s2.l.length p.f.s3.l.length), 19)) I_come4 pre_come4 po_come4 fun p4 r4 => K 0 .nil (Fd4n r4.f) 19) (K 0 .nil (Fd4 ({ p.f with fly := (p.f.fly.drop 0).take ((y0.toNat) - 0) } : F4) (((p.f.fly.drop 0).take ((y0.toNat) - 0)).length) p.f.s0.l.length p.f.s1.l.length p.f.s2.l.length p.f.s3.l.length) 19)) (exB fun m1 : List Told => mP (rowsR (m1.map encT) (((p.f.fly.drop ((y0 + (1 : Int)).toNat)).take (p.f.fly.length - ((y0 + (1 : Int)).toNat))).map encT)) (mP (limP 48 (((p.f.fly.drop 0).take ((y0.toNat) - 0)).length + m1.length)) (iP (¬ p.k = (6 : Int)) (useC (([.ptr 0 0, .agg [.sy (.int 0 x1.to), .sy (.int 0 x1.fr), .sy (.int 0 x1.c), .sy (.imm x1.h 18 Int x1.l encK)]], (Fd4 ({ p.f with fly := ((p.f.fly.drop 0).take ((y0.toNat) - 0)) ++ m1 } : F4) ((((p.f.fly.drop 0).take ((y0.toNat) - 0)) ++ m1).length) p.f.s0.l.length p.f.s1.l.length p.f.s2.l.length p.f.s3.l.length), 19)) I_come4 pre_come4 po_come4 fun p3 r3 => K 0 .nil (Fd4n r3.f) 19) (K 0 .nil (Fd4 ({ p.f with fly := ((p.f.fly.drop 0).take ((y0.toNat) - 0)) ++ m1 } : F4) ((((p.f.fly.drop 0).take ((y0.toNat) - 0)) ++ m1).length) p.f.s0.l.length p.f.s1.l.length p.f.s2.l.length p.f.s3.l.length) 19)))))))))))))))))))))) (iP (¬ p.k = (6 : Int)) (useC (([.ptr 0 0, .agg [.sy (.int 0 x1.to), .sy (.int 0 x1.fr), .sy (.int 0 x1.c), .sy (.imm x1.h 18 Int x1.l encK)]], (Fd4n p.f), 19)) I_come4 pre_come4 po_come4 fun p5 r5 => K 0 .nil (Fd4n r5.f) 19) (K 0 .nil (Fd4n p.f) 19))) true)))))) (K 0 .nil (Fd4n p.f) 19)) (K 0 .nil (Fd4n p.f) 19)))) (by kernel_rfl) ?_
 dsimp only [pre_rest4] at hpre
 obtain ⟨hinv, k1, k2, k3, k4, k5⟩ := hpre
 have hinv : FInv p.f.s0 _ _ p.f.fly := hinv
 obtain ⟨hs, hfew, f0, f1, f2, f3⟩ := fact4 hinv
 have t6 := tmk p.kk p.i
 have t7 := tmk2 p.kk p.i
 refine iI (fun hc1 => ?_) (fun hc1 => ?_)
 refine iI (fun hc2 => ?_) (fun hc2 => ?_)
 exact fin_rest4 hK ⟨({ p.f with s0 := ({ p.f.s0 with sh := true = true } : Rl) } : F4)⟩ (by dsimp only [po_rest4] <;> (first | (exfalso; omega) | exact ⟨(by first | exact ⟨tr_shut hinv _, frz_shut rfl⟩), by first | rfl | exact hi0.2⟩))
 refine iI (fun hc3 => ?_) (fun hc3 => ?_)
 exact fin_rest4 hK ⟨({ p.f with s1 := ({ p.f.s1 with sh := true = true } : Rl) } : F4)⟩ (by dsimp only [po_rest4] <;> (first | (exfalso; omega) | exact ⟨(by first | exact ⟨tr_shutO (i := 0) hinv rfl _, frz_other (i := 0) rfl fun _ => ⟨rfl, rfl⟩⟩), by first | rfl | exact hi0.2⟩))
 refine iI (fun hc4 => ?_) (fun hc4 => ?_)
 exact fin_rest4 hK ⟨({ p.f with s2 := ({ p.f.s2 with sh := true = true } : Rl) } : F4)⟩ (by dsimp only [po_rest4] <;> (first | (exfalso; omega) | exact ⟨(by first | exact ⟨tr_shutO (i := 1) hinv rfl _, frz_other (i := 1) rfl fun _ => ⟨rfl, rfl⟩⟩), by first | rfl | exact hi0.2⟩))
 refine iI (fun hc5 => ?_) (fun hc5 => ?_)
 exact fin_rest4 hK ⟨({ p.f with s3 := ({ p.f.s3 with sh := true = true } : Rl) } : F4)⟩ (by dsimp only [po_rest4] <;> (first | (exfalso; omega) | exact ⟨(by first | exact ⟨tr_shutO (i := 2) hinv rfl _, frz_other (i := 2) rfl fun _ => ⟨rfl, rfl⟩⟩), by first | rfl | exact hi0.2⟩))
 refine mI (by omega) ?_
 rfl
 refine iI (fun hc6 => ?_) (fun hc6 => ?_)
 refine iI (fun hc7 => ?_) (fun hc7 => ?_)
 refine mI (by omega) (mI (by simp only [InR]; omega) (mI (by omega) (mI (by first | omega | (constructor <;> omega)) (mI (by omega) ?_))))
 refine allB_mk (fun x1 => ?_)
 refine iI (fun hi8 => ?_) (fun _ => rfl)
 have hm := hinv.msgs x1 (List.mem_of_getElem? (by assumption))
 refine iI (fun hc9 => ?_) (fun hc9 => ?_)
 refine mI (by first | omega | (simp; omega)) (mI (by simp only [InR]; omega) (mI (by first | omega | (simp; omega)) (mI (rfl) (mI (by first | omega | (simp; omega)) (mI (rfl) (mI (rfl) (mI (by first | omega | (simp; omega)) (mI (rfl) (mI (by (first | omega | (simp [limP] <;> omega))) ?_)))))))))
 refine iI (fun hc10 => ?_) (fun hc10 => ?_)
 have hc10l : (((p.f.fly.drop 0).take (((Int.tmod ((Int.tmod p.i p.kk) + p.kk) p.kk).toNat) - 0))).length = 0 := (by rw [hc10]; rfl)
 refine mI (rfl) (mI (by first | omega | (simp; omega)) (mI (rfl) (mI (by (first | omega | (simp [limP] <;> omega))) ?_)))
 refine iI (fun hc11 => ?_) (fun hc11 => ?_)
 have hc11l : (((p.f.fly.drop (((Int.tmod ((Int.tmod p.i p.kk) + p.kk) p.kk) + (1 : Int)).toNat)).take (p.f.fly.length - (((Int.tmod ((Int.tmod p.i p.kk) + p.kk) p.kk) + (1 : Int)).toNat)))).length = 0 := (by rw [hc11]; rfl)
 refine mI (rfl) ?_
 refine iI (fun hc12 => ?_) (fun hc12 => ?_)
 refine callPR (⟨({ p.f with fly := ([] : List Told) } : F4), x1⟩ : A_come4) rfl (by (try dsimp only [pre_come4]); exact ⟨(hinv.sub (fun _ h => by simp at h) (by simp)), hm⟩) fun r1 hi13 => ?_
 dsimp only [po_come4] at hi13
 exact fin_rest4 hK ⟨r1.f⟩ (by dsimp only [po_rest4] <;> (first | (exfalso; omega) | exact ⟨(by first | exact hi13.1), by first | rfl | exact hi13.2⟩))
 exact fin_rest4 hK ⟨({ p.f with fly := ([] : List Told) } : F4)⟩ (by dsimp only [po_rest4] <;> (first | (exfalso; omega) | exact ⟨(by first | exact ⟨(hinv.sub (fun _ h => by simp at h) (by simp)), Frz.refl _⟩), by first | rfl | exact hi8.2⟩))
 have hc11l : 0 < (((p.f.fly.drop (((Int.tmod ((Int.tmod p.i p.kk) + p.kk) p.kk) + (1 : Int)).toNat)).take (p.f.fly.length - (((Int.tmod ((Int.tmod p.i p.kk) + p.kk) p.kk) + (1 : Int)).toNat)))).length := List.length_pos_iff.2 hc11
 refine mI (by simp [limP]; omega) ?_
 refine iI (fun hc14 => ?_) (fun hc14 => ?_)
 refine callPR (⟨({ p.f with fly := (p.f.fly.drop (((Int.tmod ((Int.tmod p.i p.kk) + p.kk) p.kk) + (1 : Int)).toNat)).take (p.f.fly.length - (((Int.tmod ((Int.tmod p.i p.kk) + p.kk) p.kk) + (1 : Int)).toNat)) } : F4), x1⟩ : A_come4) rfl (by (try dsimp only [pre_come4]); exact ⟨(hinv.sub sub_one (by simp; omega)), hm⟩) fun r2 hi15 => ?_
 dsimp only [po_come4] at hi15
 exact fin_rest4 hK ⟨r2.f⟩ (by dsimp only [po_rest4] <;> (first | (exfalso; omega) | exact ⟨(by first | exact hi15.1), by first | rfl | exact hi15.2⟩))
 exact fin_rest4 hK ⟨({ p.f with fly := (p.f.fly.drop (((Int.tmod ((Int.tmod p.i p.kk) + p.kk) p.kk) + (1 : Int)).toNat)).take (p.f.fly.length - (((Int.tmod ((Int.tmod p.i p.kk) + p.kk) p.kk) + (1 : Int)).toNat)) } : F4)⟩ (by dsimp only [po_rest4] <;> (first | (exfalso; omega) | exact ⟨(by first | exact ⟨(hinv.sub sub_one (by simp; omega)), Frz.refl _⟩), by first | rfl | exact hi8.2⟩))
 have hc10l : 0 < (((p.f.fly.drop 0).take (((Int.tmod ((Int.tmod p.i p.kk) + p.kk) p.kk).toNat) - 0))).length := List.length_pos_iff.2 hc10
 refine mI (by simp [limP]; omega) (mI (rfl) (mI (by first | omega | (simp; omega)) (mI (rfl) (mI (by (first | omega | (simp [limP] <;> omega))) (mI (rfl) ?_)))))
 refine iI (fun hc16 => ?_) (fun hc16 => ?_)
 have hc16l : (((p.f.fly.drop (((Int.tmod ((Int.tmod p.i p.kk) + p.kk) p.kk) + (1 : Int)).toNat)).take (p.f.fly.length - (((Int.tmod ((Int.tmod p.i p.kk) + p.kk) p.kk) + (1 : Int)).toNat)))).length = 0 := (by rw [hc16]; rfl)
 refine iI (fun hc17 => ?_) (fun hc17 => ?_)
 refine callPR (⟨({ p.f with fly := (p.f.fly.drop 0).take (((Int.tmod ((Int.tmod p.i p.kk) + p.kk) p.kk).toNat) - 0) } : F4), x1⟩ : A_come4) rfl (by (try dsimp only [pre_come4]); exact ⟨(hinv.sub sub_one (by simp; omega)), hm⟩) fun r4 hi18 => ?_
 dsimp only [po_come4] at hi18
 exact fin_rest4 hK ⟨r4.f⟩ (by dsimp only [po_rest4] <;> (first | (exfalso; omega) | exact ⟨(by first | exact hi18.1), by first | rfl | exact hi18.2⟩))
 exact fin_rest4 hK ⟨({ p.f with fly := (p.f.fly.drop 0).take (((Int.tmod ((Int.tmod p.i p.kk) + p.kk) p.kk).toNat) - 0) } : F4)⟩ (by dsimp only [po_rest4] <;> (first | (exfalso; omega) | exact ⟨(by first | exact ⟨(hinv.sub sub_one (by simp; omega)), Frz.refl _⟩), by first | rfl | exact hi8.2⟩))
 have hc16l : 0 < (((p.f.fly.drop (((Int.tmod ((Int.tmod p.i p.kk) + p.kk) p.kk) + (1 : Int)).toNat)).take (p.f.fly.length - (((Int.tmod ((Int.tmod p.i p.kk) + p.kk) p.kk) + (1 : Int)).toNat)))).length := List.length_pos_iff.2 hc16
 refine exB_mk ((p.f.fly.drop (((Int.tmod ((Int.tmod p.i p.kk) + p.kk) p.kk) + (1 : Int)).toNat)).take (p.f.fly.length - (((Int.tmod ((Int.tmod p.i p.kk) + p.kk) p.kk) + (1 : Int)).toNat))) ?_
 refine mI (show rowsR (((p.f.fly.drop (((Int.tmod ((Int.tmod p.i p.kk) + p.kk) p.kk) + (1 : Int)).toNat)).take (p.f.fly.length - (((Int.tmod ((Int.tmod p.i p.kk) + p.kk) p.kk) + (1 : Int)).toNat))).map encT) (((p.f.fly.drop (((Int.tmod ((Int.tmod p.i p.kk) + p.kk) p.kk) + (1 : Int)).toNat)).take (p.f.fly.length - (((Int.tmod ((Int.tmod p.i p.kk) + p.kk) p.kk) + (1 : Int)).toNat))).map encT) from rowsR_refl _) ?_
 refine mI (by simp [limP]; omega) ?_
 refine iI (fun hc19 => ?_) (fun hc19 => ?_)
 refine callPR (⟨({ p.f with fly := ((p.f.fly.drop 0).take (((Int.tmod ((Int.tmod p.i p.kk) + p.kk) p.kk).toNat) - 0)) ++ ((p.f.fly.drop (((Int.tmod ((Int.tmod p.i p.kk) + p.kk) p.kk) + (1 : Int)).toNat)).take (p.f.fly.length - (((Int.tmod ((Int.tmod p.i p.kk) + p.kk) p.kk) + (1 : Int)).toNat))) } : F4), x1⟩ : A_come4) rfl (by (try dsimp only [pre_come4]); exact ⟨(hinv.sub sub_cut (by simp; omega)), hm⟩) fun r3 hi20 => ?_
 dsimp only [po_come4] at hi20
 exact fin_rest4 hK ⟨r3.f⟩ (by dsimp only [po_rest4] <;> (first | (exfalso; omega) | exact ⟨(by first | exact hi20.1), by first | rfl | exact hi20.2⟩))
 exact fin_rest4 hK ⟨({ p.f with fly := ((p.f.fly.drop 0).take (((Int.tmod ((Int.tmod p.i p.kk) + p.kk) p.kk).toNat) - 0)) ++ ((p.f.fly.drop (((Int.tmod ((Int.tmod p.i p.kk) + p.kk) p.kk) + (1 : Int)).toNat)).take (p.f.fly.length - (((Int.tmod ((Int.tmod p.i p.kk) + p.kk) p.kk) + (1 : Int)).toNat))) } : F4)⟩ (by dsimp only [po_rest4] <;> (first | (exfalso; omega) | exact ⟨(by first | exact ⟨(hinv.sub sub_cut (by simp; omega)), Frz.refl _⟩), by first | rfl | exact hi8.2⟩))
 refine iI (fun hc21 => ?_) (fun hc21 => ?_)
 refine callPR (⟨p.f, x1⟩ : A_come4) rfl (by (try dsimp only [pre_come4]); exact ⟨hinv, hm⟩) fun r5 hi22 => ?_
 dsimp only [po_come4] at hi22
 exact fin_rest4 hK ⟨r5.f⟩ (by dsimp only [po_rest4] <;> (first | (exfalso; omega) | exact ⟨(by first | exact hi22.1), by first | rfl | exact hi22.2⟩))
 exact fin_rest4 hK ⟨p.f⟩ (by dsimp only [po_rest4] <;> (first | (exfalso; omega) | exact ⟨(by first | exact ⟨hinv, Frz.refl _⟩), by first | rfl | exact hi8.2⟩))
 exact fin_rest4 hK ⟨p.f⟩ (by dsimp only [po_rest4] <;> (first | (exfalso; omega) | exact ⟨(by first | exact ⟨hinv, Frz.refl _⟩), by first | rfl | exact hi0.2⟩))
 exact fin_rest4 hK ⟨p.f⟩ (by dsimp only [po_rest4] <;> (first | (exfalso; omega) | exact ⟨(by first | exact ⟨hinv, Frz.refl _⟩), by first | rfl | exact hi0.2⟩))
theorem lo_rest4 : LpOk Try.prog 203 1 lp_step4 false 0 bd_rest4 := by
 refine sp_of (lf := 600) tb_mix (cfT_ok nat_come4_ok) (by rfl) (fun b j x h => by cases h) (fun S M nx K h => ?_)
 obtain ⟨p, h⟩ := exB_ok h
 obtain ⟨e, h9⟩ := mustP_ok h
 clear h
 have e1 : S = (I_rest4 p).1 := congrArg Prod.fst e
 have e2 : M = (I_rest4 p).2.1 := congrArg (fun x => x.2.1) e
 have e3 : nx = (I_rest4 p).2.2 := congrArg (fun x => x.2.2) e
 subst e1; subst e2; subst e3
 exact vb_rest4 p K (mustP_ok h9).1 (mustP_ok h9).2
def bd_mid4 : XC := bd_mid1
theorem vb_mid4 (p : A_mid4) (K : KC) (hpre : pre_mid4 p) (hK : out_mid4 p K = true) : (codeX (cfT nat_come4) lp_step4 600 bd_mid4 (I_mid4 p).1 (I_mid4 p).2.1 (I_mid4 p).2.2 K) = true := by
 refine Eq.trans (b := (iP (p.k = (2 : Int)) (iP ((0 : Int) < p.y) (iP (p.kk < (100 : Int)) (iP (p.y = 0) (mP (((.prow 3 p.f.fly.length) : SY) = (.prow 3 p.f.fly.length)) (mP (((.prow 3 p.f.fly.length) : SY) = (.prow 3 p.f.fly.length)) (mP (p.f.fly.length = p.f.fly.length) (exB fun m4 : List Told => mP (rowsR (m4.map encT) [[.int 0 (.ofNat 0), .sint 0 (p.f.s0.l.length : Int), .sint 0 p.y, .nilS]]) (mP (limP 48 (p.f.fly.length + m4.length)) (K 0 .nil (Fd4 ({ p.f with fly := p.f.fly ++ m4 } : F4) ((p.f.fly ++ m4).length) p.f.s0.l.length p.f.s1.l.length p.f.s2.l.length p.f.s3.l.length) 19)))))) (iP (p.y = 1) (mP (((.prow 3 p.f.fly.length) : SY) = (.prow 3 p.f.fly.length)) (mP (((.prow 3 p.f.fly.length) : SY) = (.prow 3 p.f.fly.length)) (mP (p.f.fly.length = p.f.fly.length) (exB fun m3 : List Told => mP (rowsR (m3.map encT) [[.int 0 (.ofNat 0), .sint 0 (p.f.s1.l.length : Int), .sint 0 p.y, .nilS]]) (mP (limP 48 (p.f.fly.length + m3.length)) (K 0 .nil (Fd4 ({ p.f with fly := p.f.fly ++ m3 } : F4) ((p.f.fly ++ m3).length) p.f.s0.l.length p.f.s1.l.length p.f.s2.l.length p.f.s3.l.length) 19)))))) (iP (p.y = 2) (mP (((.prow 3 p.f.fly.length) : SY) = (.prow 3 p.f.fly.length)) (mP (((.prow 3 p.f.fly.length) : SY) = (.prow 3 p.f.fly.length)) (mP (p.f.fly.length = p.f.fly.length) (exB fun m2 : List Told => mP (rowsR (m2.map encT) [[.int 0 (.ofNat 0), .sint 0 (p.f.s2.l.length : Int), .sint 0 p.y, .nilS]]) (mP (limP 48 (p.f.fly.length + m2.length)) (K 0 .nil (Fd4 ({ p.f with fly := p.f.fly ++ m2 } : F4) ((p.f.fly ++ m2).length) p.f.s0.l.length p.f.s1.l.length p.f.s2.l.length p.f.s3.l.length) 19)))))) (iP (p.y = 3) (mP (((.prow 3 p.f.fly.length) : SY) = (.prow 3 p.f.fly.length)) (mP (((.prow 3 p.f.fly.length) : SY) = (.prow 3 p.f.fly.length)) (mP (p.f.fly.length = p.f.fly.length) (exB fun m1 : List Told => mP (rowsR (m1.map encT) [[.int 0 (.ofNat 0), .sint 0 (p.f.s3.l.length : Int), .sint 0 p.y, .nilS]]) (mP (limP 48 (p.f.fly.length + m1.length)) (K 0 .nil (Fd4 ({ p.f with fly := p.f.fly ++ m1 } : F4) ((p.f.fly ++ m1).length) p.f.s0.l.length p.f.s1.l.length p.f.s2.l.length p.f.s3.l.length) 19)))))) (mP (False) (true)))))) (useC (((.cons 5 (.sy (.int 0 p.kk)) (.cons 4 (.sy (.int 0 p.y)) (.cons 3 (.ptr 1 0) (.cons 0 (.ptr 0 0) .nil)))), (Fb4n p.f p.k p.x p.nn p.i), 20)) I_rest4 pre_rest4 po_rest4 fun p1 r1 => K 0 .nil (Fd4n r1.f) 19)) (useC (((.cons 5 (.sy (.int 0 p.kk)) (.cons 4 (.sy (.int 0 p.y)) (.cons 3 (.ptr 1 0) (.cons 0 (.ptr 0 0) .nil)))), (Fb4n p.f p.k p.x p.nn p.i), 20)) I_rest4 pre_rest4 po_rest4 fun p2 r2 => K 0 .nil (Fd4n r2.f) 19)) (useC (((.cons 5 (.sy (.int 0 p.kk)) (.cons 4 (.sy (.int 0 p.y)) (.cons 3 (.ptr 1 0) (.cons 0 (.ptr 0 0) .nil)))), (Fb4n p.f p.k p.x p.nn p.i), 20)) I_rest4 pre_rest4 po_rest4 fun p3 r3 => K 0 .nil (Fd4n r3.f) 19))) (by kernel_rfl) ?_
 dsimp only [pre_mid4] at hpre
 obtain ⟨hinv, k1, k2, k3, k4, k5⟩ := hpre
 have hinv : FInv p.f.s0 _ _ p.f.fly := hinv
 obtain ⟨hs, hfew, f0, f1, f2, f3⟩ := fact4 hinv
 refine iI (fun hc1 => ?_) (fun hc1 => ?_)
 refine iI (fun hc2 => ?_) (fun hc2 => ?_)
 refine iI (fun hc3 => ?_) (fun hc3 => ?_)
 refine iI (fun hc4 => ?_) (fun hc4 => ?_)
 refine mI (rfl) (mI (rfl) (mI (rfl) ?_))
 refine exB_mk [⟨(0 : Int), (p.f.s0.l.length : Int), p.y, (.slice none 0 0), []⟩] ?_
 refine mI ((rows4 (.inr (.inl ⟨_, _, rfl, rfl⟩)) (.inl rfl) (.inl rfl) (.inr (.inr ⟨_, _, _, by decide, rfl, rfl⟩)))) (mI (by simp [limP]; omega) ?_)
 exact fin_mid4 hK ⟨({ p.f with fly := p.f.fly ++ [⟨(0 : Int), (p.f.s0.l.length : Int), p.y, (.slice none 0 0), []⟩] } : F4)⟩ (by dsimp only [po_mid4] <;> (first | (exfalso; omega) | exact ⟨(by first | exact ⟨tr_len (j := 0) hinv (by omega) rfl (by omega) rfl, Frz.refl _⟩ | exact ⟨tr_len (j := 1) hinv (by omega) rfl (by omega) rfl, Frz.refl _⟩ | exact ⟨tr_len (j := 2) hinv (by omega) rfl (by omega) rfl, Frz.refl _⟩ | exact ⟨tr_len (j := 3) hinv (by omega) rfl (by omega) rfl, Frz.refl _⟩), by first | rfl | exact hi0.2⟩))
 refine iI (fun hc5 => ?_) (fun hc5 => ?_)
 refine mI (rfl) (mI (rfl) (mI (rfl) ?_))
 refine exB_mk [⟨(0 : Int), (p.f.s1.l.length : Int), p.y, (.slice none 0 0), []⟩] ?_
 refine mI ((rows4 (.inr (.inl ⟨_, _, rfl, rfl⟩)) (.inl rfl) (.inl rfl) (.inr (.inr ⟨_, _, _, by decide, rfl, rfl⟩)))) (mI (by simp [limP]; omega) ?_)
 exact fin_mid4 hK ⟨({ p.f with fly := p.f.fly ++ [⟨(0 : Int), (p.f.s1.l.length : Int), p.y, (.slice none 0 0), []⟩] } : F4)⟩ (by dsimp only [po_mid4] <;> (first | (exfalso; omega) | exact ⟨(by first | exact ⟨tr_len (j := 0) hinv (by omega) rfl (by omega) rfl, Frz.refl _⟩ | exact ⟨tr_len (j := 1) hinv (by omega) rfl (by omega) rfl, Frz.refl _⟩ | exact ⟨tr_len (j := 2) hinv (by omega) rfl (by omega) rfl, Frz.refl _⟩ | exact ⟨tr_len (j := 3) hinv (by omega) rfl (by omega) rfl, Frz.refl _⟩), by first | rfl | exact hi0.2⟩))
 refine iI (fun hc6 => ?_) (fun hc6 => ?_)
 refine mI (rfl) (mI (rfl) (mI (rfl) ?_))
 refine exB_mk [⟨(0 : Int), (p.f.s2.l.length : Int), p.y, (.slice none 0 0), []⟩] ?_
 refine mI ((rows4 (.inr (.inl ⟨_, _, rfl, rfl⟩)) (.inl rfl) (.inl rfl) (.inr (.inr ⟨_, _, _, by decide, rfl, rfl⟩)))) (mI (by simp [limP]; omega) ?_)
 exact fin_mid4 hK ⟨({ p.f with fly := p.f.fly ++ [⟨(0 : Int), (p.f.s2.l.length : Int), p.y, (.slice none 0 0), []⟩] } : F4)⟩ (by dsimp only [po_mid4] <;> (first | (exfalso; omega) | exact ⟨(by first | exact ⟨tr_len (j := 0) hinv (by omega) rfl (by omega) rfl, Frz.refl _⟩ | exact ⟨tr_len (j := 1) hinv (by omega) rfl (by omega) rfl, Frz.refl _⟩ | exact ⟨tr_len (j := 2) hinv (by omega) rfl (by omega) rfl, Frz.refl _⟩ | exact ⟨tr_len (j := 3) hinv (by omega) rfl (by omega) rfl, Frz.refl _⟩), by first | rfl | exact hi0.2⟩))
 refine iI (fun hc7 => ?_) (fun hc7 => ?_)
 refine mI (rfl) (mI (rfl) (mI (rfl) ?_))
 refine exB_mk [⟨(0 : Int), (p.f.s3.l.length : Int), p.y, (.slice none 0 0), []⟩] ?_
 refine mI ((rows4 (.inr (.inl ⟨_, _, rfl, rfl⟩)) (.inl rfl) (.inl rfl) (.inr (.inr ⟨_, _, _, by decide, rfl, rfl⟩)))) (mI (by simp [limP]; omega) ?_)
 exact fin_mid4 hK ⟨({ p.f with fly := p.f.fly ++ [⟨(0 : Int), (p.f.s3.l.length : Int), p.y, (.slice none 0 0), []⟩] } : F4)⟩ (by dsimp only [po_mid4] <;> (first | (exfalso; omega) | exact ⟨(by first | exact ⟨tr_len (j := 0) hinv (by omega) rfl (by omega) rfl, Frz.refl _⟩ | exact ⟨tr_len (j := 1) hinv (by omega) rfl (by omega) rfl, Frz.refl _⟩ | exact ⟨tr_len (j := 2) hinv (by omega) rfl (by omega) rfl, Frz.refl _⟩ | exact ⟨tr_len (j := 3) hinv (by omega) rfl (by omega) rfl, Frz.refl _⟩), by first | rfl | exact hi0.2⟩))
 refine mI (by omega) ?_
 rfl
 refine callPR (⟨p.f, p.k, p.x, p.nn, p.i, p.y, p.kk⟩ : A_rest4) rfl (by (try dsimp only [pre_rest4]); exact ⟨hinv, by omega, by omega, by omega, by omega, by omega⟩) fun r1 hi8 => ?_
 dsimp only [po_rest4] at hi8
 exact fin_mid4 hK ⟨r1.f⟩ (by dsimp only [po_mid4] <;> (first | (exfalso; omega) | exact ⟨(by first | exact hi8.1), by first | rfl | exact hi8.2⟩))
 refine callPR (⟨p.f, p.k, p.x, p.nn, p.i, p.y, p.kk⟩ : A_rest4) rfl (by (try dsimp only [pre_rest4]); exact ⟨hinv, by omega, by omega, by omega, by omega, by omega⟩) fun r2 hi9 => ?_
 dsimp only [po_rest4] at hi9
 exact fin_mid4 hK ⟨r2.f⟩ (by dsimp only [po_mid4] <;> (first | (exfalso; omega) | exact ⟨(by first | exact hi9.1), by first | rfl | exact hi9.2⟩))
 refine callPR (⟨p.f, p.k, p.x, p.nn, p.i, p.y, p.kk⟩ : A_rest4) rfl (by (try dsimp only [pre_rest4]); exact ⟨hinv, by omega, by omega, by omega, by omega, by omega⟩) fun r3 hi10 => ?_
 dsimp only [po_rest4] at hi10
 exact fin_mid4 hK ⟨r3.f⟩ (by dsimp only [po_mid4] <;> (first | (exfalso; omega) | exact ⟨(by first | exact hi10.1), by first | rfl | exact hi10.2⟩))
theorem lo_mid4 : LpOk Try.prog 203 1 lp_step4 false 1 bd_mid4 := by
 refine sp_of (lf := 600) tb_mix (cfT_ok nat_come4_ok) (by rfl) (fun b j x h => (mem_step lo_rest4 (fun h => (by cases h)) h)) (fun S M nx K h => ?_)
 obtain ⟨p, h⟩ := exB_ok h
 obtain ⟨e, h9⟩ := mustP_ok h
 clear h
 have e1 : S = (I_mid4 p).1 := congrArg Prod.fst e
 have e2 : M = (I_mid4 p).2.1 := congrArg (fun x => x.2.1) e
 have e3 : nx = (I_mid4 p).2.2 := congrArg (fun x => x.2.2) e
 subst e1; subst e2; subst e3
 exact vb_mid4 p K (mustP_ok h9).1 (mustP_ok h9).2
structure A_step4 where
 f : F4
 k : Int
 x : Int
 nn : Int
 i : Int
structure R_step4 where
 f : F4
def po_step4 (p : A_step4) (r : R_step4) : Prop := (FI4 r.f ∧ Fr4 p.f r.f) ∧ 0 ≤ r.f.cnt ∧ r.f.cnt ≤ p.f.cnt + 1
noncomputable def I_step4 (p : A_step4) : IE := ([.ptr 0 0, .agg [.sy (.int 0 p.k), .sy (.int 0 p.x), .sy (.int 0 p.nn), .sy (.int 0 p.i)]], (Fd4n p.f), 19)
noncomputable def out_step4 (p : A_step4) (K : KE) : Bool := allB fun r : R_step4 => iP (po_step4 p r) (K (.tup []) (Fd4n r.f) 19) true
def pre_step4 (p : A_step4) : Prop := FI4 p.f ∧ 0 ≤ p.f.cnt ∧ p.f.cnt ≤ 1000000
theorem fin_step4 {p : A_step4} {K : KE} (hK : out_step4 p K = true) (r : R_step4) (h : po_step4 p r) : K (.tup []) (Fd4n r.f) 19 = true := ifB_use h (allB_ok hK r)
theorem vf_step4 (p : A_step4) (K : KE) (hpre : pre_step4 p) (hK : out_step4 p K = true) : (funE 1 (cfT nat_come4) lp_step4 600 ft_step4 (I_step4 p).1 (I_step4 p).2.1 (I_step4 p).2.2 K) = true := by
 refine Eq.trans (b := (let y0 : Int := (Int.tmod ((Int.tmod p.x (4 : Int)) + (4 : Int)) (4 : Int)); let y1 : Int := ((Int.tmod p.nn (3 : Int)) + (3 : Int)); mP ((4 : Int) ≠ 0) (mP (InR 0 ((Int.tmod p.x (4 : Int)) + (4 : Int))) (mP ((4 : Int) ≠ 0) (iP (p.k = (0 : Int)) (mP (InR 0 (p.f.cnt + (1 : Int))) (mP ((16 : Int) ≠ 0) (mP (InR 1 (Int.tmod (p.f.cnt + (1 : Int)) (16 : Int))) (useC (([.ptr 0 0, .agg [.int 1 (.ofNat 2), .int 1 (.ofNat 0), .int 2 (.ofNat 0), .int 3 (.ofNat 0), .int 1 (.ofNat 0), .int 1 (.ofNat 0), .int 1 (.ofNat 0), .int 1 (.ofNat 0), .int 1 (.ofNat 0), .int 1 (.ofNat 0), .int 1 (.ofNat 0), .int 3 (.ofNat 0), .nilS, .int 1 (.ofNat 0), .str [], .nilS, .sy (.int 1 (Int.tmod (p.f.cnt + (1 : Int)) (16 : Int))), .int 2 (.ofNat 1)]], (Ro4n p.f.s0.l p.f.s0.com p.f.s0.sh p.f.c0 p.f.c1 p.f.c2 p.f.c3), 4)) I_add4 pre_add4 po_add4 fun p1 r1 => K (.tup []) (Fd4n ⟨⟨r1.l, r1.com, p1.sh⟩, p.f.s1, p.f.s2, p.f.s3, r1.c0, p1.c1, p1.c2, p1.c3, p.f.fly, p.f.cnt + (1 : Int)⟩) 19)))) (iP (p.k = (1 : Int)) (iP ((0 : Int) < y0) (iP ((p.f.fly.length : Int) < (100 : Int)) (mP ((3 : Int) ≠ 0) (mP (InR 0 y1) (mP ((3 : Int) ≠ 0) (mP (InR 0 ((1 : Int) + (Int.tmod y1 (3 : Int)))) (mP (InR 1 y0) (mP (((.int 0 p.nn) : SY) = (.int 0 p.nn)) (useC (([.ptr 0 0, .agg [.sy (.int 1 y0), .int 2 (.ofNat 1)], .sy (.int 0 ((1 : Int) + (Int.tmod y1 (3 : Int))))], (Ro4n p.f.s0.l p.f.s0.com p.f.s0.sh p.f.c0 p.f.c1 p.f.c2 p.f.c3), 4)) I_since4 pre_since4 po_since4 fun p2 r2 => mP (((.prow 2 p.f.fly.length) : SY) = (.prow 2 p.f.fly.length)) (mP (((.prow 2 p.f.fly.length) : SY) = (.prow 2 p.f.fly.length)) (mP (p.f.fly.length = p.f.fly.length) (exB fun m1 : List Told => mP (rowsR (m1.map encT) [[.sint 0 y0, .sint 0 r2.fr, .sint 0 p2.com, .imm r2.h 18 Int r2.o encK]]) (mP (limP 48 (p.f.fly.length + m1.length)) (K (.tup []) (Fd4 ⟨⟨p2.l, p2.com, p2.sh⟩, p.f.s1, p.f.s2, p.f.s3, p2.c0, p2.c1, p2.c2, p2.c3, p.f.fly ++ m1, p.f.cnt⟩ ((p.f.fly ++ m1).length) p2.l.length p.f.s1.l.length p.f.s2.l.length p.f.s3.l.length) 19)))))))))))) (useC (((.cons 5 (.sy (.int 0 (p.f.fly.length : Int))) (.cons 4 (.sy (.int 0 y0)) (.cons 3 (.ptr 1 0) (.cons 0 (.ptr 0 0) .nil)))), (Fb4n p.f p.k p.x p.nn p.i), 20)) I_mid4 pre_mid4 po_mid4 fun p3 r3 => K (.tup []) (Fd4n r3.f) 19)) (useC (((.cons 5 (.sy (.int 0 (p.f.fly.length : Int))) (.cons 4 (.sy (.int 0 y0)) (.cons 3 (.ptr 1 0) (.cons 0 (.ptr 0 0) .nil)))), (Fb4n p.f p.k p.x p.nn p.i), 20)) I_mid4 pre_mid4 po_mid4 fun p4 r4 => K (.tup []) (Fd4n r4.f) 19)) (useC (((.cons 5 (.sy (.int 0 (p.f.fly.length : Int))) (.cons 4 (.sy (.int 0 y0)) (.cons 3 (.ptr 1 0) (.cons 0 (.ptr 0 0) .nil)))), (Fb4n p.f p.k p.x p.nn p.i), 20)) I_mid4 pre_mid4 po_mid4 fun p5 r5 => K (.tup []) (Fd4n r5.f) 19))))))) (by kernel_rfl) ?_
 dsimp only [pre_step4] at hpre
 obtain ⟨hinv, k1, k2⟩ := hpre
 have hinv : FInv p.f.s0 _ _ p.f.fly := hinv
 obtain ⟨hs, hfew, f0, f1, f2, f3⟩ := fact4 hinv
 have t1 := tmb 4 (by decide) p.x
 have t2 := tmp 4 (by decide) (p.x.tmod 4 + 4) (by omega)
 have t3 := tmb 3 (by decide) p.nn
 have t4 := tmp 3 (by decide) (p.nn.tmod 3 + 3) (by omega)
 have t5 := tmp 16 (by decide) (p.f.cnt + 1) (by omega)
 refine mI (by decide) (mI (by simp only [InR]; omega) (mI (by decide) ?_))
 refine iI (fun hc1 => ?_) (fun hc1 => ?_)
 refine mI (by simp only [InR]; omega) (mI (by decide) (mI (by simp only [InR]; omega) ?_))
 refine callPR (⟨p.f.s0.l, p.f.s0.com, p.f.s0.sh, p.f.c0, p.f.c1, p.f.c2, p.f.c3, Int.tmod (p.f.cnt + (1 : Int)) (16 : Int)⟩ : A_add4) rfl (by (try dsimp only [pre_add4]); omega) fun r1 hi2 => ?_
 dsimp only [po_add4] at hi2
 exact fin_step4 hK ⟨⟨⟨r1.l, r1.com, p.f.s0.sh⟩, p.f.s1, p.f.s2, p.f.s3, r1.c0, p.f.c1, p.f.c2, p.f.c3, p.f.fly, p.f.cnt + (1 : Int)⟩⟩ (by dsimp only [po_step4] <;> (refine ⟨?_, by omega, by omega⟩; first | (exfalso; omega) | exact tr_add (maj := 3) hinv (by simp) (by assumption)))
 refine iI (fun hc3 => ?_) (fun hc3 => ?_)
 refine iI (fun hc4 => ?_) (fun hc4 => ?_)
 refine iI (fun hc5 => ?_) (fun hc5 => ?_)
 refine mI (by decide) (mI (by simp only [InR]; omega) (mI (by decide) (mI (by simp only [InR]; omega) (mI (by simp only [InR]; omega) (mI (rfl) ?_)))))
 refine callPR (⟨p.f.s0.l, p.f.s0.com, p.f.s0.sh, p.f.c0, p.f.c1, p.f.c2, p.f.c3, Int.tmod ((Int.tmod p.x (4 : Int)) + (4 : Int)) (4 : Int), (1 : Int) + (Int.tmod ((Int.tmod p.nn (3 : Int)) + (3 : Int)) (3 : Int))⟩ : A_since4) rfl (by (try dsimp only [pre_since4]); omega) fun r2 hi6 => ?_
 dsimp only [po_since4] at hi6
 refine mI (rfl) (mI (rfl) (mI (rfl) ?_))
 refine exB_mk [⟨Int.tmod ((Int.tmod p.x (4 : Int)) + (4 : Int)) (4 : Int), r2.fr, p.f.s0.com, r2.h, r2.o⟩] ?_
 refine mI ((rows4 (.inl rfl) (.inl rfl) (.inl rfl) (.inl rfl))) (mI (by simp [limP]; omega) ?_)
 exact fin_step4 hK ⟨⟨⟨p.f.s0.l, p.f.s0.com, p.f.s0.sh⟩, p.f.s1, p.f.s2, p.f.s3, p.f.c0, p.f.c1, p.f.c2, p.f.c3, p.f.fly ++ [⟨Int.tmod ((Int.tmod p.x (4 : Int)) + (4 : Int)) (4 : Int), r2.fr, p.f.s0.com, r2.h, r2.o⟩], p.f.cnt⟩⟩ (by dsimp only [po_step4] <;> (refine ⟨?_, by omega, by omega⟩; first | (exfalso; omega) | exact ⟨tr_since (m := 4) hinv (by omega) (by simp) (by omega) (by assumption), Frz.refl _⟩))
 refine callPR (⟨p.f, p.k, p.x, p.nn, p.i, Int.tmod ((Int.tmod p.x (4 : Int)) + (4 : Int)) (4 : Int), (p.f.fly.length : Int)⟩ : A_mid4) rfl (by (try dsimp only [pre_mid4]); exact ⟨hinv, by omega, by omega, by omega, by omega, by omega⟩) fun r3 hi7 => ?_
 dsimp only [po_mid4] at hi7
 exact fin_step4 hK ⟨r3.f⟩ (by dsimp only [po_step4] <;> (refine ⟨?_, by omega, by omega⟩; first | (exfalso; omega) | exact hi7.1))
 refine callPR (⟨p.f, p.k, p.x, p.nn, p.i, Int.tmod ((Int.tmod p.x (4 : Int)) + (4 : Int)) (4 : Int), (p.f.fly.length : Int)⟩ : A_mid4) rfl (by (try dsimp only [pre_mid4]); exact ⟨hinv, by omega, by omega, by omega, by omega, by omega⟩) fun r4 hi8 => ?_
 dsimp only [po_mid4] at hi8
 exact fin_step4 hK ⟨r4.f⟩ (by dsimp only [po_step4] <;> (refine ⟨?_, by omega, by omega⟩; first | (exfalso; omega) | exact hi8.1))
 refine callPR (⟨p.f, p.k, p.x, p.nn, p.i, Int.tmod ((Int.tmod p.x (4 : Int)) + (4 : Int)) (4 : Int), (p.f.fly.length : Int)⟩ : A_mid4) rfl (by (try dsimp only [pre_mid4]); exact ⟨hinv, by omega, by omega, by omega, by omega, by omega⟩) fun r5 hi9 => ?_
 dsimp only [po_mid4] at hi9
 exact fin_step4 hK ⟨r5.f⟩ (by dsimp only [po_step4] <;> (refine ⟨?_, by omega, by omega⟩; first | (exfalso; omega) | exact hi9.1))
noncomputable def ec_step4 : SpecE := tstE (elB 1 4) (esOf I_step4 (spP pre_step4 out_step4)) ec_step3
theorem nc_step4 : NatE Try.prog 28 1 ec_step4 := tstE_ok (natE_said (f := 28) (k := 1) (lp := lp_step4) (lf := 600) tb_mix (cfT_ok nat_come4_ok) ft_step4_ok (by rfl) (fun b j x h => (mem_step lo_mid4 (fun h => (by cases h)) h)) fun p K h => vf_step4 p K (mustP_ok h).1 (mustP_ok h).2) nc_step3
noncomputable def nat_step4 := natC nat_come4 1 ec_step4 28 [(0, 4), (1, 15)]
theorem nat_step4_ok : NatsOk Try.prog nat_step4 := natC_ok nc_step4 nat_come4_ok
def ft_come5 : XF := ft_come1
theorem ft_come5_ok : chkF Try.prog 41 ft_come5 = true := ft_come1_ok
structure A_come5 where
 f : F5
 t : Told
structure R_come5 where
 f : F5
def po_come5 (p : A_come5) (r : R_come5) : Prop := (FI5 r.f ∧ Fr5 p.f r.f) ∧ r.f.cnt = p.f.cnt
noncomputable def I_come5 (p : A_come5) : IE := ([.ptr 0 0, .agg [.sy (.int 0 p.t.to), .sy (.int 0 p.t.fr), .sy (.int 0 p.t.c), .sy (.imm p.t.h 18 Int p.t.l encK)]], (Fd5n p.f), 23)
noncomputable def out_come5 (p : A_come5) (K : KE) : Bool := allB fun r : R_come5 => iP (po_come5 p r) (K (.tup []) (Fd5n r.f) 23) true
def pre_come5 (p : A_come5) : Prop := FI5 p.f ∧ MsgOk p.f.s0 [p.f.s1, p.f.s2, p.f.s3, p.f.s4] p.t
theorem fin_come5 {p : A_come5} {K : KE} (hK : out_come5 p K = true) (r : R_come5) (h : po_come5 p r) : K (.tup []) (Fd5n r.f) 23 = true := ifB_use h (allB_ok hK r)
theorem vf_come5 (p : A_come5) (K : KE) (hpre : pre_come5 p) (hK : out_come5 p K = true) : (funE 1 (cfT nat_step4) noLp 600 ft_come5 (I_come5 p).1 (I_come5 p).2.1 (I_come5 p).2.2 K) = true := by
 refine Eq.trans (b := (iP (p.t.to = (0 : Int)) (mP (InR 1 p.t.c) (mP (((.int 0 p.t.fr) : SY) = (.int 0 p.t.fr)) (useC (([.ptr 0 0, .agg [.sy (.int 1 p.t.c), .int 2 (.ofNat 1)], .sy (.int 0 p.t.fr)], (Ro5n p.f.s0.l p.f.s0.com p.f.s0.sh p.f.c0 p.f.c1 p.f.c2 p.f.c3 p.f.c4), 4)) I_ack5 pre_ack5 po_ack5 fun p1 r1 => K (.tup []) (Fd5n ({ p.f with s0 := ⟨p1.l, r1.com, p1.sh⟩, c0 := r1.c0, c1 := r1.c1, c2 := r1.c2, c3 := r1.c3, c4 := r1.c4 } : F5)) 23))) (iP (p.t.to = 0) (exB fun p6 : A_take5 => mP (([.ptr 0 0, .sy (.int 0 p.t.fr), .sy (.imm p.t.h 18 Int p.t.l encK), .sy (.int 0 p.t.c)], (Ro5n p.f.s0.l p.f.s0.com p.f.s0.sh p.f.c0 p.f.c1 p.f.c2 p.f.c3 p.f.c4), 4) = I_take5 p6) (mP (pre_take5 p6) (allB fun r6 : R_take5 => iP (po_take5 p6 r6) (K (.tup []) (.node (.node (.node (.node (.node .leaf (some (.prow 45 18 Int p.f.s2.l encK)) .leaf) (some (.blk false 67 10 [[.int 1 (.ofNat 0), .int 3 (.ofNat 1), .sl 20 0 5 (.rest 0), .sy (.int 1 4), .int 2 (.ofNat 1), .sy (.prow 21 p.f.s4.l.length), .int 0 (.ofNat 0), .sy (.int 0 p.f.s4.com), .sy (.bool p.f.s4.sh), .map 22]])) .leaf) (some (.blk false 67 10 [[.int 1 (.ofNat 0), .int 3 (.ofNat 1), .sl 8 0 5 (.rest 0), .sy (.int 1 p6.me), .int 2 (.ofNat 1), .sy (.prow 9 r6.l.length), .int 0 (.ofNat 0), .sy (.int 0 r6.com), .sy (.bool p6.sh), .map 10]])) (.node (.node .leaf (some (.map [(.agg [.int 1 (.ofNat 0), .int 2 (.ofNat 1)], .sy (.int 0 0), 0), (.agg [.int 1 (.ofNat 1), .int 2 (.ofNat 1)], .sy (.int 0 0), 1), (.agg [.int 1 (.ofNat 2), .int 2 (.ofNat 1)], .sy (.int 0 0), 2), (.agg [.int 1 (.ofNat 3), .int 2 (.ofNat 1)], .sy (.int 0 0), 3), (.agg [.int 1 (.ofNat 4), .int 2 (.ofNat 1)], .sy (.int 0 0), 4)] 5)) .leaf) (some (.blk true 31 2 [[.int 1 (.ofNat 0), .int 2 (.ofNat 1)], [.int 1 (.ofNat 1), .int 2 (.ofNat 1)], [.int 1 (.ofNat 2), .int 2 (.ofNat 1)], [.int 1 (.ofNat 3), .int 2 (.ofNat 1)], [.int 1 (.ofNat 4), .int 2 (.ofNat 1)]])) .leaf)) (some (.blk true 22 1 [[.ptr 3 0], [.ptr 4 0], [.ptr 5 0], [.ptr 6 0], [.ptr 7 0]])) (.node (.node (.node .leaf (some (.blk true 31 2 [[.int 1 (.ofNat 0), .int 2 (.ofNat 1)], [.int 1 (.ofNat 1), .int 2 (.ofNat 1)], [.int 1 (.ofNat 2), .int 2 (.ofNat 1)], [.int 1 (.ofNat 3), .int 2 (.ofNat 1)], [.int 1 (.ofNat 4), .int 2 (.ofNat 1)]])) .leaf) (some (.prow 45 18 Int r6.l encK)) .leaf) (some (.blk false 67 10 [[.int 1 (.ofNat 0), .int 3 (.ofNat 1), .sl 14 0 5 (.rest 0), .sy (.int 1 2), .int 2 (.ofNat 1), .sy (.prow 15 p.f.s2.l.length), .int 0 (.ofNat 0), .sy (.int 0 p.f.s2.com), .sy (.bool p.f.s2.sh), .map 16]])) (.node (.node .leaf (some (.prow 45 18 Int p.f.s4.l encK)) .leaf) (some (.map [(.agg [.int 1 (.ofNat 0), .int 2 (.ofNat 1)], .sy (.int 0 0), 0), (.agg [.int 1 (.ofNat 1), .int 2 (.ofNat 1)], .sy (.int 0 0), 1), (.agg [.int 1 (.ofNat 2), .int 2 (.ofNat 1)], .sy (.int 0 0), 2), (.agg [.int 1 (.ofNat 3), .int 2 (.ofNat 1)], .sy (.int 0 0), 3), (.agg [.int 1 (.ofNat 4), .int 2 (.ofNat 1)], .sy (.int 0 0), 4)] 5)) .leaf))) (some (.blk false 81 3 [[.sl 1 0 5 (.rest 0), .sy (.prow 2 p.f.fly.length), .sy (.int 0 p.f.cnt)]])) (.node (.node (.node (.node .leaf (some (.map [(.agg [.int 1 (.ofNat 0), .int 2 (.ofNat 1)], .sy (.int 0 0), 0), (.agg [.int 1 (.ofNat 1), .int 2 (.ofNat 1)], .sy (.int 0 0), 1), (.agg [.int 1 (.ofNat 2), .int 2 (.ofNat 1)], .sy (.int 0 0), 2), (.agg [.int 1 (.ofNat 3), .int 2 (.ofNat 1)], .sy (.int 0 0), 3), (.agg [.int 1 (.ofNat 4), .int 2 (.ofNat 1)], .sy (.int 0 0), 4)] 5)) .leaf) (some (.blk true 31 2 [[.int 1 (.ofNat 0), .int 2 (.ofNat 1)], [.int 1 (.ofNat 1), .int 2 (.ofNat 1)], [.int 1 (.ofNat 2), .int 2 (.ofNat 1)], [.int 1 (.ofNat 3), .int 2 (.ofNat 1)], [.int 1 (.ofNat 4), .int 2 (.ofNat 1)]])) .leaf) (some (.blk false 67 10 [[.int 1 (.ofNat 0), .int 3 (.ofNat 1), .sl 11 0 5 (.rest 0), .sy (.int 1 1), .int 2 (.ofNat 1), .sy (.prow 12 p.f.s1.l.length), .int 0 (.ofNat 0), .sy (.int 0 p.f.s1.com), .sy (.bool p.f.s1.sh), .map 13]])) (.node (.node .leaf (some (.blk true 31 2 [[.int 1 (.ofNat 0), .int 2 (.ofNat 1)], [.int 1 (.ofNat 1), .int 2 (.ofNat 1)], [.int 1 (.ofNat 2), .int 2 (.ofNat 1)], [.int 1 (.ofNat 3), .int 2 (.ofNat 1)], [.int 1 (.ofNat 4), .int 2 (.ofNat 1)]])) .leaf) (some (.prow 45 18 Int p.f.s1.l encK)) .leaf)) (some (.prow 100 4 Told p.f.fly encT)) (.node (.node (.node .leaf (some (.prow 45 18 Int p.f.s3.l encK)) .leaf) (some (.map [(.agg [.int 1 (.ofNat 0), .int 2 (.ofNat 1)], .sy (.int 0 p6.c0), 0), (.agg [.int 1 (.ofNat 1), .int 2 (.ofNat 1)], .sy (.int 0 p6.c1), 1), (.agg [.int 1 (.ofNat 2), .int 2 (.ofNat 1)], .sy (.int 0 p6.c2), 2), (.agg [.int 1 (.ofNat 3), .int 2 (.ofNat 1)], .sy (.int 0 p6.c3), 3), (.agg [.int 1 (.ofNat 4), .int 2 (.ofNat 1)], .sy (.int 0 p6.c4), 4)] 5)) .leaf) (some (.blk false 67 10 [[.int 1 (.ofNat 0), .int 3 (.ofNat 1), .sl 17 0 5 (.rest 0), .sy (.int 1 3), .int 2 (.ofNat 1), .sy (.prow 18 p.f.s3.l.length), .int 0 (.ofNat 0), .sy (.int 0 p.f.s3.com), .sy (.bool p.f.s3.sh), .map 19]])) (.node (.node .leaf (some (.map [(.agg [.int 1 (.ofNat 0), .int 2 (.ofNat 1)], .sy (.int 0 0), 0), (.agg [.int 1 (.ofNat 1), .int 2 (.ofNat 1)], .sy (.int 0 0), 1), (.agg [.int 1 (.ofNat 2), .int 2 (.ofNat 1)], .sy (.int 0 0), 2), (.agg [.int 1 (.ofNat 3), .int 2 (.ofNat 1)], .sy (.int 0 0), 3), (.agg [.int 1 (.ofNat 4), .int 2 (.ofNat 1)], .sy (.int 0 0), 4)] 5)) .leaf) (some (.blk true 31 2 [[.int 1 (.ofNat 0), .int 2 (.ofNat 1)], [.int 1 (.ofNat 1), .int 2 (.ofNat 1)], [.int 1 (.ofNat 2), .int 2 (.ofNat 1)], [.int 1 (.ofNat 3), .int 2 (.ofNat 1)], [.int 1 (.ofNat 4), .int 2 (.ofNat 1)]])) .leaf)))) 23) true))) (iP (p.t.to = 1) (useC (([.ptr 0 0, .sy (.int 0 p.t.fr), .sy (.imm p.t.h 18 Int p.t.l encK), .sy (.int 0 p.t.c)], (Rm5n p.f.s1.l p.f.s1.com p.f.s1.sh 0 0 0 0 0 1), 4)) I_take5 pre_take5 po_take5 fun p5 r5 => K (.tup []) (Fg5 ({ p.f with s1 := ⟨r5.l, r5.com, p5.sh⟩ } : F5) p5.me p5.c0 p5.c1 p5.c2 p5.c3 p5.c4 2 0 0 0 0 0 3 0 0 0 0 0 4 0 0 0 0 0 p.f.fly.length p.f.s0.l.length r5.l.length p.f.s2.l.length p.f.s3.l.length p.f.s4.l.length) 23) (iP (p.t.to = 2) (useC (([.ptr 0 0, .sy (.int 0 p.t.fr), .sy (.imm p.t.h 18 Int p.t.l encK), .sy (.int 0 p.t.c)], (Rm5n p.f.s2.l p.f.s2.com p.f.s2.sh 0 0 0 0 0 2), 4)) I_take5 pre_take5 po_take5 fun p4 r4 => K (.tup []) (Fg5 ({ p.f with s2 := ⟨r4.l, r4.com, p4.sh⟩ } : F5) 1 0 0 0 0 0 p4.me p4.c0 p4.c1 p4.c2 p4.c3 p4.c4 3 0 0 0 0 0 4 0 0 0 0 0 p.f.fly.length p.f.s0.l.length p.f.s1.l.length r4.l.length p.f.s3.l.length p.f.s4.l.length) 23) (iP (p.t.to = 3) (useC (([.ptr 0 0, .sy (.int 0 p.t.fr), .sy (.imm p.t.h 18 Int p.t.l encK), .sy (.int 0 p.t.c)], (Rm5n p.f.s3.l p.f.s3.com p.f.s3.sh 0 0 0 0 0 3), 4)) I_take5 pre_take5 po_take5 fun p3 r3 => K (.tup []) (Fg5 ({ p.f with s3 := ⟨r3.l, r3.com, p3.sh⟩ } : F5) 1 0 0 0 0 0 2 0 0 0 0 0 p3.me p3.c0 p3.c1 p3.c2 p3.c3 p3.c4 4 0 0 0 0 0 p.f.fly.length p.f.s0.l.length p.f.s1.l.length p.f.s2.l.length r3.l.length p.f.s4.l.length) 23) (iP (p.t.to = 4) (useC (([.ptr 0 0, .sy (.int 0 p.t.fr), .sy (.imm p.t.h 18 Int p.t.l encK), .sy (.int 0 p.t.c)], (Rm5n p.f.s4.l p.f.s4.com p.f.s4.sh 0 0 0 0 0 4), 4)) I_take5 pre_take5 po_take5 fun p2 r2 => K (.tup []) (Fg5 ({ p.f with s4 := ⟨r2.l, r2.com, p2.sh⟩ } : F5) 1 0 0 0 0 0 2 0 0 0 0 0 3 0 0 0 0 0 p2.me p2.c0 p2.c1 p2.c2 p2.c3 p2.c4 p.f.fly.length p.f.s0.l.length p.f.s1.l.length p.f.s2.l.length p.f.s3.l.length r2.l.length) 23) (mP (False) (true))))))))) (by kernel_rfl) ?_
 dsimp only [pre_come5] at hpre
 obtain ⟨hinv, hm⟩ := hpre
 have hinv : FInv p.f.s0 _ _ p.f.fly := hinv
 obtain ⟨hs, hfew, f0, f1, f2, f3, f4⟩ := fact5 hinv
 have hm2 := hm.flat hs
 simp only [List.length_cons, List.length_nil, List.length_singleton] at hm2
 refine iI (fun hc1 => ?_) (fun hc1 => ?_)
 refine mI (by simp only [InR]; omega) (mI (rfl) ?_)
 refine callPR (⟨p.f.s0.l, p.f.s0.com, p.f.s0.sh, p.f.c0, p.f.c1, p.f.c2, p.f.c3, p.f.c4, p.t.c, p.t.fr⟩ : A_ack5) rfl (by (try dsimp only [pre_ack5]); omega) fun r1 hi2 => ?_
 dsimp only [po_ack5] at hi2
 exact fin_come5 hK ⟨({ p.f with s0 := ⟨p.f.s0.l, r1.com, p.f.s0.sh⟩, c0 := r1.c0, c1 := r1.c1, c2 := r1.c2, c3 := r1.c3, c4 := r1.c4 } : F5)⟩ (by dsimp only [po_come5] <;> (first | (exfalso; omega) | exact ⟨tr_ack (maj := 3) (m := 5) hinv (by simp) (by simp) hm (by assumption) (by assumption), rfl⟩))
 refine iI (fun hc3 => ?_) (fun hc3 => ?_)
 exfalso; omega
 refine iI (fun hc4 => ?_) (fun hc4 => ?_)
 refine callPR (⟨p.f.s1.l, p.f.s1.com, p.f.s1.sh, (0 : Int), (0 : Int), (0 : Int), (0 : Int), (0 : Int), (1 : Int), p.t.fr, p.t.h, p.t.l, p.t.c⟩ : A_take5) rfl (by (try dsimp only [pre_take5]); omega) fun r5 hi5 => ?_
 dsimp only [po_take5] at hi5
 exact fin_come5 hK ⟨({ p.f with s1 := ⟨r5.l, r5.com, p.f.s1.sh⟩ } : F5)⟩ (by dsimp only [po_come5] <;> (first | (exfalso; omega) | exact ⟨tr_take (i := 0) hinv rfl hm (by assumption) (by assumption), rfl⟩))
 refine iI (fun hc6 => ?_) (fun hc6 => ?_)
 refine callPR (⟨p.f.s2.l, p.f.s2.com, p.f.s2.sh, (0 : Int), (0 : Int), (0 : Int), (0 : Int), (0 : Int), (2 : Int), p.t.fr, p.t.h, p.t.l, p.t.c⟩ : A_take5) rfl (by (try dsimp only [pre_take5]); omega) fun r4 hi7 => ?_
 dsimp only [po_take5] at hi7
 exact fin_come5 hK ⟨({ p.f with s2 := ⟨r4.l, r4.com, p.f.s2.sh⟩ } : F5)⟩ (by dsimp only [po_come5] <;> (first | (exfalso; omega) | exact ⟨tr_take (i := 1) hinv rfl hm (by assumption) (by assumption), rfl⟩))
 refine iI (fun hc8 => ?_) (fun hc8 => ?_)
 refine callPR (⟨p.f.s3.l, p.f.s3.com, p.f.s3.sh, (0 : Int), (0 : Int), (0 : Int), (0 : Int), (0 : Int), (3 : Int), p.t.fr, p.t.h, p.t.l, p.t.c⟩ : A_take5) rfl (by (try dsimp only [pre_take5]); omega) fun r3 hi9 => ?_
 dsimp only [po_take5] at hi9
 exact fin_come5 hK ⟨({ p.f with s3 := ⟨r3.l, r3.com, p.f.s3.sh⟩ } : F5)⟩ (by dsimp only [po_come5] <;> (first | (exfalso; omega) | exact ⟨tr_take (i := 2) hinv rfl hm (by assumption) (by assumption), rfl⟩))
 refine iI (fun hc10 => ?_) (fun hc10 => ?_)
 refine callPR (⟨p.f.s4.l, p.f.s4.com, p.f.s4.sh, (0 : Int), (0 : Int), (0 : Int), (0 : Int), (0 : Int), (4 : Int), p.t.fr, p.t.h, p.t.l, p.t.c⟩ : A_take5) rfl (by (try dsimp only [pre_take5]); omega) fun r2 hi11 => ?_
 dsimp only [po_take5] at hi11
 exact fin_come5 hK ⟨({ p.f with s4 := ⟨r2.l, r2.com, p.f.s4.sh⟩ } : F5)⟩ (by dsimp only [po_come5] <;> (first | (exfalso; omega) | exact ⟨tr_take (i := 3) hinv rfl hm (by assumption) (by assumption), rfl⟩))
 refine mI (by omega) ?_
 rfl
noncomputable def ec_come5 : SpecE := tstE (elB 1 5) (esOf I_come5 (spP pre_come5 out_come5)) ec_come4
theorem nc_come5 : NatE Try.prog 41 1 ec_come5 := tstE_ok (natE_pl (f := 41) (k := 1) (cfT_ok nat_step4_ok) ft_come5_ok (by rfl) (by rfl) vf_come5) nc_come4
noncomputable def nat_come5 := natC nat_step4 1 ec_come5 41 [(0, 4), (1, 15)]
theorem nat_come5_ok : NatsOk Try.prog nat_come5 := natC_ok nc_come5 nat_step4_ok
def ft_step5 : XF := ft_step1
theorem ft_step5_ok : chkF Try.prog 28 ft_step5 = true := ft_step1_ok
structure A_rest5 where
 f : F5
 k : Int
 x : Int
 nn : Int
 i : Int
 y : Int
 kk : Int
structure R_rest5 where
 f : F5
def po_rest5 (p : A_rest5) (r : R_rest5) : Prop := (FI5 r.f ∧ Fr5 p.f r.f) ∧ r.f.cnt = p.f.cnt
noncomputable def I_rest5 (p : A_rest5) : IL := ((.cons 5 (.sy (.int 0 p.kk)) (.cons 4 (.sy (.int 0 p.y)) (.cons 3 (.ptr 1 0) (.cons 0 (.ptr 0 0) .nil)))), (Fb5n p.f p.k p.x p.nn p.i), 24)
noncomputable def out_rest5 (p : A_rest5) (K : KC) : Bool := allB fun r : R_rest5 => iP (po_rest5 p r) (K 0 .nil (Fd5n r.f) 23) true
def pre_rest5 (p : A_rest5) : Prop := FI5 p.f ∧ 0 ≤ p.f.cnt ∧ p.f.cnt ≤ 1000000 ∧ 0 ≤ p.y ∧ p.y < 5 ∧ p.kk = (p.f.fly.length : Int)
theorem fin_rest5 {p : A_rest5} {K : KC} (hK : out_rest5 p K = true) (r : R_rest5) (h : po_rest5 p r) : K 0 .nil (Fd5n r.f) 23 = true := ifB_use h (allB_ok hK r)
noncomputable def sp_rest5 (p : A_rest5) (K : KC) : Bool := must (prB (pre_rest5 p)) (out_rest5 p K)
structure A_mid5 where
 f : F5
 k : Int
 x : Int
 nn : Int
 i : Int
 y : Int
 kk : Int
structure R_mid5 where
 f : F5
def po_mid5 (p : A_mid5) (r : R_mid5) : Prop := (FI5 r.f ∧ Fr5 p.f r.f) ∧ r.f.cnt = p.f.cnt
noncomputable def I_mid5 (p : A_mid5) : IL := ((.cons 5 (.sy (.int 0 p.kk)) (.cons 4 (.sy (.int 0 p.y)) (.cons 3 (.ptr 1 0) (.cons 0 (.ptr 0 0) .nil)))), (Fb5n p.f p.k p.x p.nn p.i), 24)
noncomputable def out_mid5 (p : A_mid5) (K : KC) : Bool := allB fun r : R_mid5 => iP (po_mid5 p r) (K 0 .nil (Fd5n r.f) 23) true
def pre_mid5 (p : A_mid5) : Prop := FI5 p.f ∧ 0 ≤ p.f.cnt ∧ p.f.cnt ≤ 1000000 ∧ 0 ≤ p.y ∧ p.y < 5 ∧ p.kk = (p.f.fly.length : Int)
theorem fin_mid5 {p : A_mid5} {K : KC} (hK : out_mid5 p K = true) (r : R_mid5) (h : po_mid5 p r) : K 0 .nil (Fd5n r.f) 23 = true := ifB_use h (allB_ok hK r)
noncomputable def sp_mid5 (p : A_mid5) (K : KC) : Bool := must (prB (pre_mid5 p)) (out_mid5 p K)
noncomputable def lp_step5 : LpF := fun j S M nx K => (Bool.rec ((Bool.rec (false) (exB fun p : A_mid5 => must (prB ((S, M, nx) = I_mid5 p)) (sp_mid5 p K)) (Nat.beq j 1))) (exB fun p : A_rest5 => must (prB ((S, M, nx) = I_rest5 p)) (sp_rest5 p K)) (Nat.beq j 0))
def bd_rest5 : XC := bd_rest1
theorem vb_rest5 (p : A_rest5) (K : KC) (hpre : pre_rest5 p) (hK : out_rest5 p K = true) : (codeX (cfT nat_come5) lp_step5 600 bd_rest5 (I_rest5 p).1 (I_rest5 p).2.1 (I_rest5 p).2.2 K) = true := by
 refine Eq.trans (b := (let y0 : Int := (Int.tmod ((Int.tmod p.i p.kk) + p.kk) p.kk); iP (p.k = (7 : Int)) (iP (p.y = 0) (K 0 .nil (Fd5n ({ p.f with s0 := ({ p.f.s0 with sh := true = true } : Rl) } : F5)) 23) (iP (p.y = 1) (K 0 .nil (Fd5n ({ p.f with s1 := ({ p.f.s1 with sh := true = true } : Rl) } : F5)) 23) (iP (p.y = 2) (K 0 .nil (Fd5n ({ p.f with s2 := ({ p.f.s2 with sh := true = true } : Rl) } : F5)) 23) (iP (p.y = 3) (K 0 .nil (Fd5n ({ p.f with s3 := ({ p.f.s3 with sh := true = true } : Rl) } : F5)) 23) (iP (p.y = 4) (K 0 .nil (Fd5n ({ p.f with s4 := ({ p.f.s4 with sh := true = true } : Rl) } : F5)) 23) (mP (False) (true))))))) (iP ((3 : Int) ≤ p.k) (iP ((0 : Int) < p.kk) (mP (p.kk ≠ 0) (mP (InR 0 ((Int.tmod p.i p.kk) + p.kk)) (mP (p.kk ≠ 0) (mP (0 ≤ y0 ∧ y0 < (p.f.fly.length : Int)) (mP ((y0.toNat) < p.f.fly.length) (allB fun x1 : Told => iP (p.f.fly[y0.toNat]? = some x1) (iP (¬ p.k = (5 : Int)) (mP (p.f.fly.length = p.f.fly.length ∧ 0 ≤ (0 : Int) ∧ (0 : Int) ≤ y0 ∧ y0 ≤ (p.f.fly.length : Int)) (mP (InR 0 (y0 + (1 : Int))) (mP (p.f.fly.length = p.f.fly.length ∧ 0 ≤ (y0 + (1 : Int)) ∧ (y0 + (1 : Int)) ≤ (p.f.fly.length : Int) ∧ (p.f.fly.length : Int) ≤ (p.f.fly.length : Int)) (mP (((.prow 3 p.f.fly.length) : SY) = (.prow 3 p.f.fly.length)) (mP (p.f.fly.length = p.f.fly.length ∧ 0 ≤ (0 : Int) ∧ (0 : Int) ≤ y0 ∧ y0 ≤ (p.f.fly.length : Int)) (mP (((.psub 3 4 0 ((y0.toNat) - 0)) : SY) = (.psub 3 4 0 ((y0.toNat) - 0))) (mP (((.prow 3 p.f.fly.length) : SY) = (.prow 3 p.f.fly.length)) (mP (p.f.fly.length = p.f.fly.length ∧ 0 ≤ (y0 + (1 : Int)) ∧ (y0 + (1 : Int)) ≤ (p.f.fly.length : Int) ∧ (p.f.fly.length : Int) ≤ (p.f.fly.length : Int)) (mP (((.psub 3 4 ((y0 + (1 : Int)).toNat) (p.f.fly.length - ((y0 + (1 : Int)).toNat))) : SY) = (.psub 3 4 ((y0 + (1 : Int)).toNat) (p.f.fly.length - ((y0 + (1 : Int)).toNat)))) (mP (0 + ((y0.toNat) - 0) ≤ p.f.fly.length) (iP (((p.f.fly.drop 0).take ((y0.toNat) - 0)) = []) (mP (((.prow 3 p.f.fly.length) : SY) = (.prow 3 p.f.fly.length)) (mP (p.f.fly.length = p.f.fly.length ∧ 0 ≤ (y0 + (1 : Int)) ∧ (y0 + (1 : Int)) ≤ (p.f.fly.length : Int) ∧ (p.f.fly.length : Int) ≤ (p.f.fly.length : Int)) (mP (((.psub 3 4 ((y0 + (1 : Int)).toNat) (p.f.fly.length - ((y0 + (1 : Int)).toNat))) : SY) = (.psub 3 4 ((y0 + (1 : Int)).toNat) (p.f.fly.length - ((y0 + (1 : Int)).toNat)))) (mP (((y0 + (1 : Int)).toNat) + (p.f.fly.length - ((y0 + (1 : Int)).toNat)) ≤ p.f.fly.length) (iP (((p.f.fly.drop ((y0 + (1 : Int)).toNat)).take (p.f.fly.length - ((y0 + (1 : Int)).toNat))) = []) (mP ((.sl 25 0 0 (.ex 0) : AV) = (.sl 25 0 0 (.ex 0) : AV)) (iP (¬ p.k = (6 : Int)) (useC (([.ptr 0 0, .agg [.sy (.int 0 x1.to), .sy (.int 0 x1.fr), .sy (.int 0 x1.c), .sy (.imm x1.h 18 Int x1.l encK)]], (Fd5 ({ p.f with fly := ([] : List Told) } : F5) 0 p.f.s0.l.length p.f.s1.l.length p.f.s2.l.length p.f.s3.l.length p.f.s4.l.length), 23)) I_come5 pre_come5 po_come5 fun p1 r1 => K 0 .nil (Fd5n r1.f) 23) (K 0 .nil (Fd5 ({ p.f with fly := ([] : List Told) } : F5) 0 p.f.s0.l.length p.f.s1.l.length p.f.s2.l.length p.f.s3.l.length p.f.s4.l.length) 23))) (mP (limP 48 ((p.f.fly.drop ((y0 + (1 : Int)).toNat)).take (p.f.fly.length - ((y0 + (1 : Int)).toNat))).length) (iP (¬ p.k = (6 : Int)) (useC (([.ptr 0 0, .agg [.sy (.int 0 x1.to), .sy (.int 0 x1.fr), .sy (.int 0 x1.c), .sy (.imm x1.h 18 Int x1.l encK)]], (Fd5 ({ p.f with fly := (p.f.fly.drop ((y0 + (1 : Int)).toNat)).take (p.f.fly.length - ((y0 + (1 : Int)).toNat)) } : F5) (((p.f.fly.drop ((y0 + (1 : Int)).toNat)).take (p.f.fly.length - ((y0 + (1 : Int)).toNat))).length) p.f.s0.l.length p.f.s1.l.length p.f.s2.l.length p.f.s3.l.length p.f.s4.l.length), 23)) I_come5 pre_come5 po_come5 fun p2 r2 => K 0 .nil (Fd5n r2.f) 23) (K 0 .nil (Fd5 ({ p.f with fly := (p.f.fly.drop ((y0 + (1 : Int)).toNat)).take (p.f.fly.length - ((y0 + (1 : Int)).toNat)) } : F5) (((p.f.fly.drop ((y0 + (1 : Int)).toNat)).take (p.f.fly.length - ((y0 + (1 : Int)).toNat))).length) p.f.s0.l.length p.f.s1.l.length p.f.s2.l.length p.f.s3.l.length p.f.s4.l.length) 23)))))))) (mP (limP 48 ((p.f.fly.drop 0).take ((y0.toNat) - 0)).length) (mP (((.prow 3 p.f.fly.length) : SY) = (.prow 3 p.f.fly.length)) (mP (p.f.fly.length = p.f.fly.length ∧ 0 ≤ (y0 + (1 : Int)) ∧ (y0 + (1 : Int)) ≤ (p.f.fly.length : Int) ∧ (p.f.fly.length : Int) ≤ (p.f.fly.length : Int)) (mP (((.psub 3 4 ((y0 + (1 : Int)).toNat) (p.f.fly.length - ((y0 + (1 : Int)).toNat))) : SY) = (.psub 3 4 ((y0 + (1 : Int)).toNat) (p.f.fly.length - ((y0 + (1 : Int)).toNat)))) (mP (((y0 + (1 : Int)).toNat) + (p.f.fly.length - ((y0 + (1 : Int)).toNat)) ≤ p.f.fly.length) (mP ((((p.f.fly.drop 0).take ((y0.toNat) - 0)).length) = ((p.f.fly.drop 0).take ((y0.toNat) - 0)).length) (iP (((p.f.fly.drop ((y0 + (1 : Int)).toNat)).take (p.f.fly.length - ((y0 + (1 : Int)).toNat))) = []) (iP (¬ p.k = (6 : Int)) (useC (([.ptr 0 0, .agg [.sy (.int 0 x1.to), .sy (.int 0 x1.fr), .sy (.int 0 x1.c), .sy (.imm x1.h 18 Int x1.l encK)]], (Fd5 ({ p.f with fly := (p.f.fly.drop 0).take ((y0.toNat) - 0) } : F5) (((p.f.fly.drop 0).take ((y0.toNat) - 0)).length) p.f.s0.l.length p.f.s1.l.length p.f.s2.l.length p.f.s3.l.length p.f.s4.l.length), 23)) I_come5 pre_come5 po_come5 fun p4 r4 => K 0 .nil (Fd5n r4.f) 23) (K 0 .nil (Fd5 ({ p.f with fly := (p.f.fly.drop 0).take ((y0.toNat) - 0) } : F5) (((p.f.fly.drop 0).take ((y0.toNat) - 0)).length) p.f.s0.l.length p.f.s1.l.length p.f.s2.l.length p.f.s3.l.length p.f.s4.l.length) 23)) (exB fun m1 : List Told => mP (rowsR (m1.map encT) (((p.f.fly.drop ((y0 + (1 : Int)).toNat)).take (p.f.fly.length - ((y0 + (1 : Int)).toNat))).map encT)) (mP (limP 48 (((p.f.fly.drop 0).take ((y0.toNat) - 0)).length + m1.length)) (iP (¬ p.k = (6 : Int)) (useC (([.ptr 0 0, .agg [.sy (.int 0 x1.to), .sy (.int 0 x1.fr), .sy (.int 0 x1.c), .sy (.imm x1.h 18 Int x1.l encK)]], (Fd5 ({ p.f with fly := ((p.f.fly.drop 0).take ((y0.toNat) - 0)) ++ m1 } : F5) ((((p.f.fly.drop 0).take ((y0.toNat) - 0)) ++ m1).length) p.f.s0.l.length p.f.s1.l.length p.f.s2.l.length p.f.s3.l.length p.f.s4.l.length), 23)) I_come5 pre_come5 po_come5 fun p3 r3 => K 0 .nil (Fd5n r3.f) 23) (K 0 .nil (Fd5 ({ p.f with fly := ((p.f.fly.drop 0).take ((y0.toNat) - 0)) ++ m1 } : F5) ((((p.f.fly.drop 0).take ((y0.toNat) - 0)) ++ m1).length) p.f.s0.l.length p.f.s1.l.length p.f.s2.l.length p.f.s3.l.length p.f.s4.l.length) 23)))))))))))))))))))))) (iP (¬ p.k = (6 : Int)) (useC (([.ptr 0 0, .agg [.sy (.int 0 x1.to), .sy (.int 0 x1.fr), .sy (.int 0 x1.c), .sy (.imm x1.h 18 Int x1.l encK)]], (Fd5n p.f), 23)) I_come5 pre_come5 po_come5 fun p5 r5 => K 0 .nil (Fd5n r5.f) 23) (K 0 .nil (Fd5n p.f) 23))) true)))))) (K 0 .nil (Fd5n p.f) 23)) (K 0 .nil (Fd5n p.f) 23)))) (by kernel_rfl) ?_
 dsimp only [pre_rest5] at hpre
 obtain ⟨hinv, k1, k2, k3, k4, k5⟩ := hpre
 have hinv : FInv p.f.s0 _ _ p.f.fly := hinv
 obtain ⟨hs, hfew, f0, f1, f2, f3, f4⟩ := fact5 hinv
 have t6 := tmk p.kk p.i
 have t7 := tmk2 p.kk p.i
 refine iI (fun hc1 => ?_) (fun hc1 => ?_)
 refine iI (fun hc2 => ?_) (fun hc2 => ?_)
 exact fin_rest5 hK ⟨({ p.f with s0 := ({ p.f.s0 with sh := true = true } : Rl) } : F5)⟩ (by dsimp only [po_rest5] <;> (first | (exfalso; omega) | exact ⟨(by first | exact ⟨tr_shut hinv _, frz_shut rfl⟩), by first | rfl | exact hi0.2⟩))
 refine iI (fun hc3 => ?_) (fun hc3 => ?_)
 exact fin_rest5 hK ⟨({ p.f with s1 := ({ p.f.s1 with sh := true = true } : Rl) } : F5)⟩ (by dsimp only [po_rest5] <;> (first | (exfalso; omega) | exact ⟨(by first | exact ⟨tr_shutO (i := 0) hinv rfl _, frz_other (i := 0) rfl fun _ => ⟨rfl, rfl⟩⟩), by first | rfl | exact hi0.2⟩))
 refine iI (fun hc4 => ?_) (fun hc4 => ?_)
 exact fin_rest5 hK ⟨({ p.f with s2 := ({ p.f.s2 with sh := true = true } : Rl) } : F5)⟩ (by dsimp only [po_rest5] <;> (first | (exfalso; omega) | exact ⟨(by first | exact ⟨tr_shutO (i := 1) hinv rfl _, frz_other (i := 1) rfl fun _ => ⟨rfl, rfl⟩⟩), by first | rfl | exact hi0.2⟩))
 refine iI (fun hc5 => ?_) (fun hc5 => ?_)
 exact fin_rest5 hK ⟨({ p.f with s3 := ({ p.f.s3 with sh := true = true } : Rl) } : F5)⟩ (by dsimp only [po_rest5] <;> (first | (exfalso; omega) | exact ⟨(by first | exact ⟨tr_shutO (i := 2) hinv rfl _, frz_other (i := 2) rfl fun _ => ⟨rfl, rfl⟩⟩), by first | rfl | exact hi0.2⟩))
 refine iI (fun hc6 => ?_) (fun hc6 => ?_)
 exact fin_rest5 hK ⟨({ p.f with s4 := ({ p.f.s4 with sh := true = true } : Rl) } : F5)⟩ (by dsimp only [po_rest5] <;> (first | (exfalso; omega) | exact ⟨(by first | exact ⟨tr_shutO (i := 3) hinv rfl _, frz_other (i := 3) rfl fun _ => ⟨rfl, rfl⟩⟩), by first | rfl | exact hi0.2⟩))
 refine mI (by omega) ?_
 rfl
 refine iI (fun hc7 => ?_) (fun hc7 => ?_)
 refine iI (fun hc8 => ?_) (fun hc8 => ?_)
 refine mI (by omega) (mI (by simp only [InR]; omega) (mI (by omega) (mI (by first | omega | (constructor <;> omega)) (mI (by omega) ?_))))
 refine allB_mk (fun x1 => ?_)
 refine iI (fun hi9 => ?_) (fun _ => rfl)
 have hm := hinv.msgs x1 (List.mem_of_getElem? (by assumption))
 refine iI (fun hc10 => ?_) (fun hc10 => ?_)
 refine mI (by first | omega | (simp; omega)) (mI (by simp only [InR]; omega) (mI (by first | omega | (simp; omega)) (mI (rfl) (mI (by first | omega | (simp; omega)) (mI (rfl) (mI (rfl) (mI (by first | omega | (simp; omega)) (mI (rfl) (mI (by (first | omega | (simp [limP] <;> omega))) ?_)))))))))
 refine iI (fun hc11 => ?_) (fun hc11 => ?_)
 have hc11l : (((p.f.fly.drop 0).take (((Int.tmod ((Int.tmod p.i p.kk) + p.kk) p.kk).toNat) - 0))).length = 0 := (by rw [hc11]; rfl)
 refine mI (rfl) (mI (by first | omega | (simp; omega)) (mI (rfl) (mI (by (first | omega | (simp [limP] <;> omega))) ?_)))
 refine iI (fun hc12 => ?_) (fun hc12 => ?_)
 have hc12l : (((p.f.fly.drop (((Int.tmod ((Int.tmod p.i p.kk) + p.kk) p.kk) + (1 : Int)).toNat)).take (p.f.fly.length - (((Int.tmod ((Int.tmod p.i p.kk) + p.kk) p.kk) + (1 : Int)).toNat)))).length = 0 := (by rw [hc12]; rfl)
 refine mI (rfl) ?_
 refine iI (fun hc13 => ?_) (fun hc13 => ?_)
 refine callPR (⟨({ p.f with fly := ([] : List Told) } : F5), x1⟩ : A_come5) rfl (by (try dsimp only [pre_come5]); exact ⟨(hinv.sub (fun _ h => by simp at h) (by simp)), hm⟩) fun r1 hi14 => ?_
 dsimp only [po_come5] at hi14
 exact fin_rest5 hK ⟨r1.f⟩ (by dsimp only [po_rest5] <;> (first | (exfalso; omega) | exact ⟨(by first | exact hi14.1), by first | rfl | exact hi14.2⟩))
 exact fin_rest5 hK ⟨({ p.f with fly := ([] : List Told) } : F5)⟩ (by dsimp only [po_rest5] <;> (first | (exfalso; omega) | exact ⟨(by first | exact ⟨(hinv.sub (fun _ h => by simp at h) (by simp)), Frz.refl _⟩), by first | rfl | exact hi9.2⟩))
 have hc12l : 0 < (((p.f.fly.drop (((Int.tmod ((Int.tmod p.i p.kk) + p.kk) p.kk) + (1 : Int)).toNat)).take (p.f.fly.length - (((Int.tmod ((Int.tmod p.i p.kk) + p.kk) p.kk) + (1 : Int)).toNat)))).length := List.length_pos_iff.2 hc12
 refine mI (by simp [limP]; omega) ?_
 refine iI (fun hc15 => ?_) (fun hc15 => ?_)
 refine callPR (⟨({ p.f with fly := (p.f.fly.drop (((Int.tmod ((Int.tmod p.i p.kk) + p.kk) p.kk) + (1 : Int)).toNat)).take (p.f.fly.length - (((Int.tmod ((Int.tmod p.i p.kk) + p.kk) p.kk) + (1 : Int)).toNat)) } : F5), x1⟩ : A_come5) rfl (by (try dsimp only [pre_come5]); exact ⟨(hinv.sub sub_one (by simp; omega)), hm⟩) fun r2 hi16 => ?_
 dsimp only [po_come5] at hi16
 exact fin_rest5 hK ⟨r2.f⟩ (by dsimp only [po_rest5] <;> (first | (exfalso; omega) | exact ⟨(by first | exact hi16.1), by first | rfl | exact hi16.2⟩))
 exact fin_rest5 hK ⟨({ p.f with fly := (p.f.fly.drop (((Int.tmod ((Int.tmod p.i p.kk) + p.kk) p.kk) + (1 : Int)).toNat)).take (p.f.fly.length - (((Int.tmod ((Int.tmod p.i p.kk) + p.kk) p.kk) + (1 : Int)).toNat)) } : F5)⟩ (by dsimp only [po_rest5] <;> (first | (exfalso; omega) | exact ⟨(by first | exact ⟨(hinv.sub sub_one (by simp; omega)), Frz.refl _⟩), by first | rfl | exact hi9.2⟩))
 have hc11l : 0 < (((p.f.fly.drop 0).take (((Int.tmod ((Int.tmod p.i p.kk) + p.kk) p.kk).toNat) - 0))).length := List.length_pos_iff.2 hc11
 refine mI (by simp [limP]; omega) (mI (rfl) (mI (by first | omega | (simp; omega)) (mI (rfl) (mI (by (first | omega | (simp [limP] <;> omega))) (mI (rfl) ?_)))))
 refine iI (fun hc17 => ?_) (fun hc17 => ?_)
 have hc17l : (((p.f.fly.drop (((Int.tmod ((Int.tmod p.i p.kk) + p.kk) p.kk) + (1 : Int)).toNat)).take (p.f.fly.length - (((Int.tmod ((Int.tmod p.i p.kk) + p.kk) p.kk) + (1 : Int)).toNat)))).length = 0 := (by rw [hc17]; rfl)
 refine iI (fun hc18 => ?_) (fun hc18 => ?_)
 refine callPR (⟨({ p.f with fly := (p.f.fly.drop 0).take (((Int.tmod ((Int.tmod p.i p.kk) + p.kk) p.kk).toNat) - 0) } : F5), x1⟩ : A_come5) rfl (by (try dsimp only [pre_come5]); exact ⟨(hinv.sub sub_one (by simp; omega)), hm⟩) fun r4 hi19 => ?_
 dsimp only [po_come5] at hi19
 exact fin_rest5 hK ⟨r4.f⟩ (by dsimp only [po_rest5] <;> (first | (exfalso; omega) | exact ⟨(by first | exact hi19.1), by first | rfl | exact hi19.2⟩))
 exact fin_rest5 hK ⟨({ p.f with fly := (p.f.fly.drop 0).take (((Int.tmod ((Int.tmod p.i p.kk) + p.kk) p.kk).toNat) - 0) } : F5)⟩ (by dsimp only [po_rest5] <;> (first | (exfalso; omega) | exact ⟨(by first | exact ⟨(hinv.sub sub_one (by simp; omega)), Frz.refl _⟩), by first | rfl | exact hi9.2⟩))
 have hc17l : 0 < (((p.f.fly.drop (((Int.tmod ((Int.tmod p.i p.kk) + p.kk) p.kk) + (1 : Int)).toNat)).take (p.f.fly.length - (((Int.tmod ((Int.tmod p.i p.kk) + p.kk) p.kk) + (1 : Int)).toNat)))).length := List.length_pos_iff.2 hc17
 refine exB_mk ((p.f.fly.drop (((Int.tmod ((Int.tmod p.i p.kk) + p.kk) p.kk) + (1 : Int)).toNat)).take (p.f.fly.length - (((Int.tmod ((Int.tmod p.i p.kk) + p.kk) p.kk) + (1 : Int)).toNat))) ?_
 refine mI (show rowsR (((p.f.fly.drop (((Int.tmod ((Int.tmod p.i p.kk) + p.kk) p.kk) + (1 : Int)).toNat)).take (p.f.fly.length - (((Int.tmod ((Int.tmod p.i p.kk) + p.kk) p.kk) + (1 : Int)).toNat))).map encT) (((p.f.fly.drop (((Int.tmod ((Int.tmod p.i p.kk) + p.kk) p.kk) + (1 : Int)).toNat)).take (p.f.fly.length - (((Int.tmod ((Int.tmod p.i p.kk) + p.kk) p.kk) + (1 : Int)).toNat))).map encT) from rowsR_refl _) ?_
 refine mI (by simp [limP]; omega) ?_
 refine iI (fun hc20 => ?_) (fun hc20 => ?_)
 refine callPR (⟨({ p.f with fly := ((p.f.fly.drop 0).take (((Int.tmod ((Int.tmod p.i p.kk) + p.kk) p.kk).toNat) - 0)) ++ ((p.f.fly.drop (((Int.tmod ((Int.tmod p.i p.kk) + p.kk) p.kk) + (1 : Int)).toNat)).take (p.f.fly.length - (((Int.tmod ((Int.tmod p.i p.kk) + p.kk) p.kk) + (1 : Int)).toNat))) } : F5), x1⟩ : A_come5) rfl (by (try dsimp only [pre_come5]); exact ⟨(hinv.sub sub_cut (by simp; omega)), hm⟩) fun r3 hi21 => ?_
 dsimp only [po_come5] at hi21
 exact fin_rest5 hK ⟨r3.f⟩ (by dsimp only [po_rest5] <;> (first | (exfalso; omega) | exact ⟨(by first | exact hi21.1), by first | rfl | exact hi21.2⟩))
 exact fin_rest5 hK ⟨({ p.f with fly := ((p.f.fly.drop 0).take (((Int.tmod ((Int.tmod p.i p.kk) + p.kk) p.kk).toNat) - 0)) ++ ((p.f.fly.drop (((Int.tmod ((Int.tmod p.i p.kk) + p.kk) p.kk) + (1 : Int)).toNat)).take (p.f.fly.length - (((Int.tmod ((Int.tmod p.i p.kk) + p.kk) p.kk) + (1 : Int)).toNat))) } : F5)⟩ (by dsimp only [po_rest5] <;> (first | (exfalso; omega) | exact ⟨(by first | exact ⟨(hinv.sub sub_cut (by simp; omega)), Frz.refl _⟩), by first | rfl | exact hi9.2⟩))
 refine iI (fun hc22 => ?_) (fun hc22 => ?_)
 refine callPR (⟨p.f, x1⟩ : A_come5) rfl (by (try dsimp only [pre_come5]); exact ⟨hinv, hm⟩) fun r5 hi23 => ?_
 dsimp only [po_come5] at hi23
 exact fin_rest5 hK ⟨r5.f⟩ (by dsimp only [po_rest5] <;> (first | (exfalso; omega) | exact ⟨(by first | exact hi23.1), by first | rfl | exact hi23.2⟩))
 exact fin_rest5 hK ⟨p.f⟩ (by dsimp only [po_rest5] <;> (first | (exfalso; omega) | exact ⟨(by first | exact ⟨hinv, Frz.refl _⟩), by first | rfl | exact hi9.2⟩))
 exact fin_rest5 hK ⟨p.f⟩ (by dsimp only [po_rest5] <;> (first | (exfalso; omega) | exact ⟨(by first | exact ⟨hinv, Frz.refl _⟩), by first | rfl | exact hi0.2⟩))
 exact fin_rest5 hK ⟨p.f⟩ (by dsimp only [po_rest5] <;> (first | (exfalso; omega) | exact ⟨(by first | exact ⟨hinv, Frz.refl _⟩), by first | rfl | exact hi0.2⟩))
theorem lo_rest5 : LpOk Try.prog 203 1 lp_step5 false 0 bd_rest5 := by
 refine sp_of (lf := 600) tb_mix (cfT_ok nat_come5_ok) (by rfl) (fun b j x h => by cases h) (fun S M nx K h => ?_)
 obtain ⟨p, h⟩ := exB_ok h
 obtain ⟨e, h9⟩ := mustP_ok h
 clear h
 have e1 : S = (I_rest5 p).1 := congrArg Prod.fst e
 have e2 : M = (I_rest5 p).2.1 := congrArg (fun x => x.2.1) e
 have e3 : nx = (I_rest5 p).2.2 := congrArg (fun x => x.2.2) e
 subst e1; subst e2; subst e3
 exact vb_rest5 p K (mustP_ok h9).1 (mustP_ok h9).2
def bd_mid5 : XC := bd_mid1
theorem vb_mid5 (p : A_mid5) (K : KC) (hpre : pre_mid5 p) (hK : out_mid5 p K = true) : (codeX (cfT nat_come5) lp_step5 600 bd_mid5 (I_mid5 p).1 (I_mid5 p).2.1 (I_mid5 p).2.2 K) = true := by
 refine Eq.trans (b := (iP (p.k = (2 : Int)) (iP ((0 : Int) < p.y) (iP (p.kk < (100 : Int)) (iP (p.y = 0) (mP (((.prow 3 p.f.fly.length) : SY) = (.prow 3 p.f.fly.length)) (mP (((.prow 3 p.f.fly.length) : SY) = (.prow 3 p.f.fly.length)) (mP (p.f.fly.length = p.f.fly.length) (exB fun m5 : List Told => mP (rowsR (m5.map encT) [[.int 0 (.ofNat 0), .sint 0 (p.f.s0.l.length : Int), .sint 0 p.y, .nilS]]) (mP (limP 48 (p.f.fly.length + m5.length)) (K 0 .nil (Fd5 ({ p.f with fly := p.f.fly ++ m5 } : F5) ((p.f.fly ++ m5).length) p.f.s0.l.length p.f.s1.l.length p.f.s2.l.length p.f.s3.l.length p.f.s4.l.length) 23)))))) (iP (p.y = 1) (mP (((.prow 3 p.f.fly.length) : SY) = (.prow 3 p.f.fly.length)) (mP (((.prow 3 p.f.fly.length) : SY) = (.prow 3 p.f.fly.length)) (mP (p.f.fly.length = p.f.fly.length) (exB fun m4 : List Told => mP (rowsR (m4.map encT) [[.int 0 (.ofNat 0), .sint 0 (p.f.s1.l.length : Int), .sint 0 p.y, .nilS]]) (mP (limP 48 (p.f.fly.length + m4.length)) (K 0 .nil (Fd5 ({ p.f with fly := p.f.fly ++ m4 } : F5) ((p.f.fly ++ m4).length) p.f.s0.l.length p.f.s1.l.length p.f.s2.l.length p.f.s3.l.length p.f.s4.l.length) 23)))))) (iP (p.y = 2) (mP (((.prow 3 p.f.fly.length) : SY) = (.prow 3 p.f.fly.length)) (mP (((.prow 3 p.f.fly.length) : SY) = (.prow 3 p.f.fly.length)) (mP (p.f.fly.length = p.f.fly.length) (exB fun m3 : List Told => mP (rowsR (m3.map encT) [[.int 0 (.ofNat 0), .sint 0 (p.f.s2.l.length : Int), .sint 0 p.y, .nilS]]) (mP (limP 48 (p.f.fly.length + m3.length)) (K 0 .nil (Fd5 ({ p.f with fly := p.f.fly ++ m3 } : F5) ((p.f.fly ++ m3).length) p.f.s0.l.length p.f.s1.l.length p.f.s2.l.length p.f.s3.l.length p.f.s4.l.length) 23)))))) (iP (p.y = 3) (mP (((.prow 3 p.f.fly.length) : SY) = (.prow 3 p.f.fly.length)) (mP (((.prow 3 p.f.fly.length) : SY) = (.prow 3 p.f.fly.length)) (mP (p.f.fly.length = p.f.fly.length) (exB fun m2 : List Told => mP (rowsR (m2.map encT) [[.int 0 (.ofNat 0), .sint 0 (p.f.s3.l.length : Int), .sint 0 p.y, .nilS]]) (mP (limP 48 (p.f.fly.length + m2.length)) (K 0 .nil (Fd5 ({ p.f with fly := p.f.fly ++ m2 } : F5) ((p.f.fly ++ m2).length) p.f.s0.l.length p.f.s1.l.length p.f.s2.l.length p.f.s3.l.length p.f.s4.l.length) 23)))))) (iP (p.y = 4) (mP (((.prow 3 p.f.fly.length) : SY) = (.prow 3 p.f.fly.length)) (mP (((.prow 3 p.f.fly.length) : SY) = (.prow 3 p.f.fly.length)) (mP (p.f.fly.length = p.f.fly.length) (exB fun m1 : List Told => mP (rowsR (m1.map encT) [[.int 0 (.ofNat 0), .sint 0 (p.f.s4.l.length : Int), .sint 0 p.y, .nilS]]) (mP (limP 48 (p.f.fly.length + m1.length)) (K 0 .nil (Fd5 ({ p.f with fly := p.f.fly ++ m1 } : F5) ((p.f.fly ++ m1).length) p.f.s0.l.length p.f.s1.l.length p.f.s2.l.length p.f.s3.l.length p.f.s4.l.length) 23)))))) (mP (False) (true))))))) (useC (((.cons 5 (.sy (.int 0 p.kk)) (.cons 4 (.sy (.int 0 p.y)) (.cons 3 (.ptr 1 0) (.cons 0 (.ptr 0 0) .nil)))), (Fb5n p.f p.k p.x p.nn p.i), 24)) I_rest5 pre_rest5 po_rest5 fun p1 r1 => K 0 .nil (Fd5n r1.f) 23)) (useC (((.cons 5 (.sy (.int 0 p.kk)) (.cons 4 (.sy (.int 0 p.y)) (.cons 3 (.ptr 1 0) (.cons 0 (.ptr 0 0) .nil)))), (Fb5n p.f p.k p.x p.nn p.i), 24)) I_rest5 pre_rest5 po_rest5 fun p2 r2 => K 0 .nil (Fd5n r2.f) 23)) (useC (((.cons 5 (.sy (.int 0 p.kk)) (.cons 4 (.sy (.int 0 p.y)) (.cons 3 (.ptr 1 0) (.cons 0 (.ptr 0 0) .nil)))), (Fb5n p.f p.k p.x p.nn p.i), 24)) I_rest5 pre_rest5 po_rest5 fun p3 r3 => K 0 .nil (Fd5n r3.f) 23))) (by kernel_rfl) ?_
 dsimp only [pre_mid5] at hpre
 obtain ⟨hinv, k1, k2, k3, k4, k5⟩ := hpre
 have hinv : FInv p.f.s0 _ _ p.f.fly := hinv
 obtain ⟨hs, hfew, f0, f1, f2, f3, f4⟩ := fact5 hinv
 refine iI (fun hc1 => ?_) (fun hc1 => ?_)
 refine iI (fun hc2 => ?_) (fun hc2 => ?_)
 refine iI (fun hc3 => ?_) (fun hc3 => ?_)
 refine iI (fun hc4 => ?_) (fun hc4 => ?_)
 refine mI (rfl) (mI (rfl) (mI (rfl) ?_))
 refine exB_mk [⟨(0 : Int), (p.f.s0.l.length : Int), p.y, (.slice none 0 0), []⟩] ?_
 refine mI ((rows4 (.inr (.inl ⟨_, _, rfl, rfl⟩)) (.inl rfl) (.inl rfl) (.inr (.inr ⟨_, _, _, by decide, rfl, rfl⟩)))) (mI (by simp [limP]; omega) ?_)
 exact fin_mid5 hK ⟨({ p.f with fly := p.f.fly ++ [⟨(0 : Int), (p.f.s0.l.length : Int), p.y, (.slice none 0 0), []⟩] } : F5)⟩ (by dsimp only [po_mid5] <;> (first | (exfalso; omega) | exact ⟨(by first | exact ⟨tr_len (j := 0) hinv (by omega) rfl (by omega) rfl, Frz.refl _⟩ | exact ⟨tr_len (j := 1) hinv (by omega) rfl (by omega) rfl, Frz.refl _⟩ | exact ⟨tr_len (j := 2) hinv (by omega) rfl (by omega) rfl, Frz.refl _⟩ | exact ⟨tr_len (j := 3) hinv (by omega) rfl (by omega) rfl, Frz.refl _⟩ | exact ⟨tr_len (j := 4) hinv (by omega) rfl (by omega) rfl, Frz.refl _⟩), by first | rfl | exact hi0.2⟩))
 refine iI (fun hc5 => ?_) (fun hc5 => ?_)
 refine mI (rfl) (mI (rfl) (mI (rfl) ?_))
 refine exB_mk [⟨(0 : Int), (p.f.s1.l.length : Int), p.y, (.slice none 0 0), []⟩] ?_
 refine mI ((rows4 (.inr (.inl ⟨_, _, rfl, rfl⟩)) (.inl rfl) (.inl rfl) (.inr (.inr ⟨_, _, _, by decide, rfl, rfl⟩)))) (mI (by simp [limP]; omega) ?_)
 exact fin_mid5 hK ⟨({ p.f with fly := p.f.fly ++ [⟨(0 : Int), (p.f.s1.l.length : Int), p.y, (.slice none 0 0), []⟩] } : F5)⟩ (by dsimp only [po_mid5] <;> (first | (exfalso; omega) | exact ⟨(by first | exact ⟨tr_len (j := 0) hinv (by omega) rfl (by omega) rfl, Frz.refl _⟩ | exact ⟨tr_len (j := 1) hinv (by omega) rfl (by omega) rfl, Frz.refl _⟩ | exact ⟨tr_len (j := 2) hinv (by omega) rfl (by omega) rfl, Frz.refl _⟩ | exact ⟨tr_len (j := 3) hinv (by omega) rfl (by omega) rfl, Frz.refl _⟩ | exact ⟨tr_len (j := 4) hinv (by omega) rfl (by omega) rfl, Frz.refl _⟩), by first | rfl | exact hi0.2⟩))
 refine iI (fun hc6 => ?_) (fun hc6 => ?_)
 refine mI (rfl) (mI (rfl) (mI (rfl) ?_))
 refine exB_mk [⟨(0 : Int), (p.f.s2.l.length : Int), p.y, (.slice none 0 0), []⟩] ?_
 refine mI ((rows4 (.inr (.inl ⟨_, _, rfl, rfl⟩)) (.inl rfl) (.inl rfl) (.inr (.inr ⟨_, _, _, by decide, rfl, rfl⟩)))) (mI (by simp [limP]; omega) ?_)
 exact fin_mid5 hK ⟨({ p.f with fly := p.f.fly ++ [⟨(0 : Int), (p.f.s2.l.length : Int), p.y, (.slice none 0 0), []⟩] } : F5)⟩ (by dsimp only [po_mid5] <;> (first | (exfalso; omega) | exact ⟨(by first | exact ⟨tr_len (j := 0) hinv (by omega) rfl (by omega) rfl, Frz.refl _⟩ | exact ⟨tr_len (j := 1) hinv (by omega) rfl (by omega) rfl, Frz.refl _⟩ | exact ⟨tr_len (j := 2) hinv (by omega) rfl (by omega) rfl, Frz.refl _⟩ | exact ⟨tr_len (j := 3) hinv (by omega) rfl (by omega) rfl, Frz.refl _⟩ | exact ⟨tr_len (j := 4) hinv (by omega) rfl (by omega) rfl, Frz.refl _⟩), by first | rfl | exact hi0.2⟩))
 refine iI (fun hc7 => ?_) (fun hc7 => ?_)
 refine mI (rfl) (mI (rfl) (mI (rfl) ?_))
 refine exB_mk [⟨(0 : Int), (p.f.s3.l.length : Int), p.y, (.slice none 0 0), []⟩] ?_
 refine mI ((rows4 (.inr (.inl ⟨_, _, rfl, rfl⟩)) (.inl rfl) (.inl rfl) (.inr (.inr ⟨_, _, _, by decide, rfl, rfl⟩)))) (mI (by simp [limP]; omega) ?_)
 exact fin_mid5 hK ⟨({ p.f with fly := p.f.fly ++ [⟨(0 : Int), (p.f.s3.l.length : Int), p.y, (.slice none 0 0), []⟩] } : F5)⟩ (by dsimp only [po_mid5] <;> (first | (exfalso; omega) | exact ⟨(by first | exact ⟨tr_len (j := 0) hinv (by omega) rfl (by omega) rfl, Frz.refl _⟩ | exact ⟨tr_len (j := 1) hinv (by omega) rfl (by omega) rfl, Frz.refl _⟩ | exact ⟨tr_len (j := 2) hinv (by omega) rfl (by omega) rfl, Frz.refl _⟩ | exact ⟨tr_len (j := 3) hinv (by omega) rfl (by omega) rfl, Frz.refl _⟩ | exact ⟨tr_len (j := 4) hinv (by omega) rfl (by omega) rfl, Frz.refl _⟩), by first | rfl | exact hi0.2⟩))
 refine iI (fun hc8 => ?_) (fun hc8 => ?_)
 refine mI (rfl) (mI (rfl) (mI (rfl) ?_))
 refine exB_mk [⟨(0 : Int), (p.f.s4.l.length : Int), p.y, (.slice none 0 0), []⟩] ?_
 refine mI ((rows4 (.inr (.inl ⟨_, _, rfl, rfl⟩)) (.inl rfl) (.inl rfl) (.inr (.inr ⟨_, _, _, by decide, rfl, rfl⟩)))) (mI (by simp [limP]; omega) ?_)
 exact fin_mid5 hK ⟨({ p.f with fly := p.f.fly ++ [⟨(0 : Int), (p.f.s4.l.length : Int), p.y, (.slice none 0 0), []⟩] } : F5)⟩ (by dsimp only [po_mid5] <;> (first | (exfalso; omega) | exact ⟨(by first | exact ⟨tr_len (j := 0) hinv (by omega) rfl (by omega) rfl, Frz.refl _⟩ | exact ⟨tr_len (j := 1) hinv (by omega) rfl (by omega) rfl, Frz.refl _⟩ | exact ⟨tr_len (j := 2) hinv (by omega) rfl (by omega) rfl, Frz.refl _⟩ | exact ⟨tr_len (j := 3) hinv (by omega) rfl (by omega) rfl, Frz.refl _⟩ | exact ⟨tr_len (j := 4) hinv (by omega) rfl (by omega) rfl, Frz.refl _⟩), by first | rfl | exact hi0.2⟩))
 refine mI (by omega) ?_
 rfl
 refine callPR (⟨p.f, p.k, p.x, p.nn, p.i, p.y, p.kk⟩ : A_rest5) rfl (by (try dsimp only [pre_rest5]); exact ⟨hinv, by omega, by omega, by omega, by omega, by omega⟩) fun r1 hi9 => ?_
 dsimp only [po_rest5] at hi9
 exact fin_mid5 hK ⟨r1.f⟩ (by dsimp only [po_mid5] <;> (first | (exfalso; omega) | exact ⟨(by first | exact hi9.1), by first | rfl | exact hi9.2⟩))
 refine callPR (⟨p.f, p.k, p.x, p.nn, p.i, p.y, p.kk⟩ : A_rest5) rfl (by (try dsimp only [pre_rest5]); exact ⟨hinv, by omega, by omega, by omega, by omega, by omega⟩) fun r2 hi10 => ?_
 dsimp only [po_rest5] at hi10
 exact fin_mid5 hK ⟨r2.f⟩ (by dsimp only [po_mid5] <;> (first | (exfalso; omega) | exact ⟨(by first | exact hi10.1), by first | rfl | exact hi10.2⟩))
 refine callPR (⟨p.f, p.k, p.x, p.nn, p.i, p.y, p.kk⟩ : A_rest5) rfl (by (try dsimp only [pre_rest5]); exact ⟨hinv, by omega, by omega, by omega, by omega, by omega⟩) fun r3 hi11 => ?_
 dsimp only [po_rest5] at hi11
 exact fin_mid5 hK ⟨r3.f⟩ (by dsimp only [po_mid5] <;> (first | (exfalso; omega) | exact ⟨(by first | exact hi11.1), by first | rfl | exact hi11.2⟩))
theorem lo_mid5 : LpOk Try.prog 203 1 lp_step5 false 1 bd_mid5 := by
 refine sp_of (lf := 600) tb_mix (cfT_ok nat_come5_ok) (by rfl) (fun b j x h => (mem_step lo_rest5 (fun h => (by cases h)) h)) (fun S M nx K h => ?_)
 obtain ⟨p, h⟩ := exB_ok h
 obtain ⟨e, h9⟩ := mustP_ok h
 clear h
 have e1 : S = (I_mid5 p).1 := congrArg Prod.fst e
 have e2 : M = (I_mid5 p).2.1 := congrArg (fun x => x.2.1) e
 have e3 : nx = (I_mid5 p).2.2 := congrArg (fun x => x.2.2) e
 subst e1; subst e2; subst e3
 exact vb_mid5 p K (mustP_ok h9).1 (mustP_ok h9).2
structure A_step5 where
 f : F5
 k : Int
 x : Int
 nn : Int
 i : Int
structure R_step5 where
 f : F5
def po_step5 (p : A_step5) (r : R_step5) : Prop := (FI5 r.f ∧ Fr5 p.f r.f) ∧ 0 ≤ r.f.cnt ∧ r.f.cnt ≤ p.f.cnt + 1
noncomputable def I_step5 (p : A_step5) : IE := ([.ptr 0 0, .agg [.sy (.int 0 p.k), .sy (.int 0 p.x), .sy (.int 0 p.nn), .sy (.int 0 p.i)]], (Fd5n p.f), 23)
noncomputable def out_step5 (p : A_step5) (K : KE) : Bool := allB fun r : R_step5 => iP (po_step5 p r) (K (.tup []) (Fd5n r.f) 23) true
def pre_step5 (p : A_step5) : Prop := FI5 p.f ∧ 0 ≤ p.f.cnt ∧ p.f.cnt ≤ 1000000
theorem fin_step5 {p : A_step5} {K : KE} (hK : out_step5 p K = true) (r : R_step5) (h : po_step5 p r) : K (.tup []) (Fd5n r.f) 23 = true := ifB_use h (allB_ok hK r)
theorem vf_step5 (p : A_step5) (K : KE) (hpre : pre_step5 p) (hK : out_step5 p K = true) : (funE 1 (cfT nat_come5) lp_step5 600 ft_step5 (I_step5 p).1 (I_step5 p).2.1 (I_step5 p).2.2 K) = true := by
 refine Eq.trans (b := (let y0 : Int := (Int.tmod ((Int.tmod p.x (5 : Int)) + (5 : Int)) (5 : Int)); let y1 : Int := ((Int.tmod p.nn (3 : Int)) + (3 : Int)); mP ((5 : Int) ≠ 0) (mP (InR 0 ((Int.tmod p.x (5 : Int)) + (5 : Int))) (mP ((5 : Int) ≠ 0) (iP (p.k = (0 : Int)) (mP (InR 0 (p.f.cnt + (1 : Int))) (mP ((16 : Int) ≠ 0) (mP (InR 1 (Int.tmod (p.f.cnt + (1 : Int)) (16 : Int))) (useC (([.ptr 0 0, .agg [.int 1 (.ofNat 2), .int 1 (.ofNat 0), .int 2 (.ofNat 0), .int 3 (.ofNat 0), .int 1 (.ofNat 0), .int 1 (.ofNat 0), .int 1 (.ofNat 0), .int 1 (.ofNat 0), .int 1 (.ofNat 0), .int 1 (.ofNat 0), .int 1 (.ofNat 0), .int 3 (.ofNat 0), .nilS, .int 1 (.ofNat 0), .str [], .nilS, .sy (.int 1 (Int.tmod (p.f.cnt + (1 : Int)) (16 : Int))), .int 2 (.ofNat 1)]], (Ro5n p.f.s0.l p.f.s0.com p.f.s0.sh p.f.c0 p.f.c1 p.f.c2 p.f.c3 p.f.c4), 4)) I_add5 pre_add5 po_add5 fun p1 r1 => K (.tup []) (Fd5n ⟨⟨r1.l, r1.com, p1.sh⟩, p.f.s1, p.f.s2, p.f.s3, p.f.s4, r1.c0, p1.c1, p1.c2, p1.c3, p1.c4, p.f.fly, p.f.cnt + (1 : Int)⟩) 23)))) (iP (p.k = (1 : Int)) (iP ((0 : Int) < y0) (iP ((p.f.fly.length : Int) < (100 : Int)) (mP ((3 : Int) ≠ 0) (mP (InR 0 y1) (mP ((3 : Int) ≠ 0) (mP (InR 0 ((1 : Int) + (Int.tmod y1 (3 : Int)))) (mP (InR 1 y0) (mP (((.int 0 p.nn) : SY) = (.int 0 p.nn)) (useC (([.ptr 0 0, .agg [.sy (.int 1 y0), .int 2 (.ofNat 1)], .sy (.int 0 ((1 : Int) + (Int.tmod y1 (3 : Int))))], (Ro5n p.f.s0.l p.f.s0.com p.f.s0.sh p.f.c0 p.f.c1 p.f.c2 p.f.c3 p.f.c4), 4)) I_since5 pre_since5 po_since5 fun p2 r2 => mP (((.prow 2 p.f.fly.length) : SY) = (.prow 2 p.f.fly.length)) (mP (((.prow 2 p.f.fly.length) : SY) = (.prow 2 p.f.fly.length)) (mP (p.f.fly.length = p.f.fly.length) (exB fun m1 : List Told => mP (rowsR (m1.map encT) [[.sint 0 y0, .sint 0 r2.fr, .sint 0 p2.com, .imm r2.h 18 Int r2.o encK]]) (mP (limP 48 (p.f.fly.length + m1.length)) (K (.tup []) (Fd5 ⟨⟨p2.l, p2.com, p2.sh⟩, p.f.s1, p.f.s2, p.f.s3, p.f.s4, p2.c0, p2.c1, p2.c2, p2.c3, p2.c4, p.f.fly ++ m1, p.f.cnt⟩ ((p.f.fly ++ m1).length) p2.l.length p.f.s1.l.length p.f.s2.l.length p.f.s3.l.length p.f.s4.l.length) 23)))))))))))) (useC (((.cons 5 (.sy (.int 0 (p.f.fly.length : Int))) (.cons 4 (.sy (.int 0 y0)) (.cons 3 (.ptr 1 0) (.cons 0 (.ptr 0 0) .nil)))), (Fb5n p.f p.k p.x p.nn p.i), 24)) I_mid5 pre_mid5 po_mid5 fun p3 r3 => K (.tup []) (Fd5n r3.f) 23)) (useC (((.cons 5 (.sy (.int 0 (p.f.fly.length : Int))) (.cons 4 (.sy (.int 0 y0)) (.cons 3 (.ptr 1 0) (.cons 0 (.ptr 0 0) .nil)))), (Fb5n p.f p.k p.x p.nn p.i), 24)) I_mid5 pre_mid5 po_mid5 fun p4 r4 => K (.tup []) (Fd5n r4.f) 23)) (useC (((.cons 5 (.sy (.int 0 (p.f.fly.length : Int))) (.cons 4 (.sy (.int 0 y0)) (.cons 3 (.ptr 1 0) (.cons 0 (.ptr 0 0) .nil)))), (Fb5n p.f p.k p.x p.nn p.i), 24)) I_mid5 pre_mid5 po_mid5 fun p5 r5 => K (.tup []) (Fd5n r5.f) 23))))))) (by kernel_rfl) ?_
 dsimp only [pre_step5] at hpre
 obtain ⟨hinv, k1, k2⟩ := hpre
 have hinv : FInv p.f.s0 _ _ p.f.fly := hinv
 obtain ⟨hs, hfew, f0, f1, f2, f3, f4⟩ := fact5 hinv
 have t1 := tmb 5 (by decide) p.x
 have t2 := tmp 5 (by decide) (p.x.tmod 5 + 5) (by omega)
 have t3 := tmb 3 (by decide) p.nn
 have t4 := tmp 3 (by decide) (p.nn.tmod 3 + 3) (by omega)
 have t5 := tmp 16 (by decide) (p.f.cnt + 1) (by omega)
 refine mI (by decide) (mI (by simp only [InR]; omega) (mI (by decide) ?_))
 refine iI (fun hc1 => ?_) (fun hc1 => ?_)
 refine mI (by simp only [InR]; omega) (mI (by decide) (mI (by simp only [InR]; omega) ?_))
 refine callPR (⟨p.f.s0.l, p.f.s0.com, p.f.s0.sh, p.f.c0, p.f.c1, p.f.c2, p.f.c3, p.f.c4, Int.tmod (p.f.cnt + (1 : Int)) (16 : Int)⟩ : A_add5) rfl (by (try dsimp only [pre_add5]); omega) fun r1 hi2 => ?_
 dsimp only [po_add5] at hi2
 exact fin_step5 hK ⟨⟨⟨r1.l, r1.com, p.f.s0.sh⟩, p.f.s1, p.f.s2, p.f.s3, p.f.s4, r1.c0, p.f.c1, p.f.c2, p.f.c3, p.f.c4, p.f.fly, p.f.cnt + (1 : Int)⟩⟩ (by dsimp only [po_step5] <;> (refine ⟨?_, by omega, by omega⟩; first | (exfalso; omega) | exact tr_add (maj := 3) hinv (by simp) (by assumption)))
 refine iI (fun hc3 => ?_) (fun hc3 => ?_)
 refine iI (fun hc4 => ?_) (fun hc4 => ?_)
 refine iI (fun hc5 => ?_) (fun hc5 => ?_)
 refine mI (by decide) (mI (by simp only [InR]; omega) (mI (by decide) (mI (by simp only [InR]; omega) (mI (by simp only [InR]; omega) (mI (rfl) ?_)))))
 refine callPR (⟨p.f.s0.l, p.f.s0.com, p.f.s0.sh, p.f.c0, p.f.c1, p.f.c2, p.f.c3, p.f.c4, Int.tmod ((Int.tmod p.x (5 : Int)) + (5 : Int)) (5 : Int), (1 : Int) + (Int.tmod ((Int.tmod p.nn (3 : Int)) + (3 : Int)) (3 : Int))⟩ : A_since5) rfl (by (try dsimp only [pre_since5]); omega) fun r2 hi6 => ?_
 dsimp only [po_since5] at hi6
 refine mI (rfl) (mI (rfl) (mI (rfl) ?_))
 refine exB_mk [⟨Int.tmod ((Int.tmod p.x (5 : Int)) + (5 : Int)) (5 : Int), r2.fr, p.f.s0.com, r2.h, r2.o⟩] ?_
 refine mI ((rows4 (.inl rfl) (.inl rfl) (.inl rfl) (.inl rfl))) (mI (by simp [limP]; omega) ?_)
 exact fin_step5 hK ⟨⟨⟨p.f.s0.l, p.f.s0.com, p.f.s0.sh⟩, p.f.s1, p.f.s2, p.f.s3, p.f.s4, p.f.c0, p.f.c1, p.f.c2, p.f.c3, p.f.c4, p.f.fly ++ [⟨Int.tmod ((Int.tmod p.x (5 : Int)) + (5 : Int)) (5 : Int), r2.fr, p.f.s0.com, r2.h, r2.o⟩], p.f.cnt⟩⟩ (by dsimp only [po_step5] <;> (refine ⟨?_, by omega, by omega⟩; first | (exfalso; omega) | exact ⟨tr_since (m := 5) hinv (by omega) (by simp) (by omega) (by assumption), Frz.refl _⟩))
 refine callPR (⟨p.f, p.k, p.x, p.nn, p.i, Int.tmod ((Int.tmod p.x (5 : Int)) + (5 : Int)) (5 : Int), (p.f.fly.length : Int)⟩ : A_mid5) rfl (by (try dsimp only [pre_mid5]); exact ⟨hinv, by omega, by omega, by omega, by omega, by omega⟩) fun r3 hi7 => ?_
 dsimp only [po_mid5] at hi7
 exact fin_step5 hK ⟨r3.f⟩ (by dsimp only [po_step5] <;> (refine ⟨?_, by omega, by omega⟩; first | (exfalso; omega) | exact hi7.1))
 refine callPR (⟨p.f, p.k, p.x, p.nn, p.i, Int.tmod ((Int.tmod p.x (5 : Int)) + (5 : Int)) (5 : Int), (p.f.fly.length : Int)⟩ : A_mid5) rfl (by (try dsimp only [pre_mid5]); exact ⟨hinv, by omega, by omega, by omega, by omega, by omega⟩) fun r4 hi8 => ?_
 dsimp only [po_mid5] at hi8
 exact fin_step5 hK ⟨r4.f⟩ (by dsimp only [po_step5] <;> (refine ⟨?_, by omega, by omega⟩; first | (exfalso; omega) | exact hi8.1))
 refine callPR (⟨p.f, p.k, p.x, p.nn, p.i, Int.tmod ((Int.tmod p.x (5 : Int)) + (5 : Int)) (5 : Int), (p.f.fly.length : Int)⟩ : A_mid5) rfl (by (try dsimp only [pre_mid5]); exact ⟨hinv, by omega, by omega, by omega, by omega, by omega⟩) fun r5 hi9 => ?_
 dsimp only [po_mid5] at hi9
 exact fin_step5 hK ⟨r5.f⟩ (by dsimp only [po_step5] <;> (refine ⟨?_, by omega, by omega⟩; first | (exfalso; omega) | exact hi9.1))
noncomputable def ec_step5 : SpecE := tstE (elB 1 5) (esOf I_step5 (spP pre_step5 out_step5)) ec_step4
theorem nc_step5 : NatE Try.prog 28 1 ec_step5 := tstE_ok (natE_said (f := 28) (k := 1) (lp := lp_step5) (lf := 600) tb_mix (cfT_ok nat_come5_ok) ft_step5_ok (by rfl) (fun b j x h => (mem_step lo_mid5 (fun h => (by cases h)) h)) fun p K h => vf_step5 p K (mustP_ok h).1 (mustP_ok h).2) nc_step4
noncomputable def nat_step5 := natC nat_come5 1 ec_step5 28 [(0, 4), (1, 15)]
theorem nat_step5_ok : NatsOk Try.prog nat_step5 := natC_ok nc_step5 nat_come5_ok
theorem tr_init {p : Prop} {tl : List Rl} {cs : List Int} (h1 : ∀ r, r ∈ tl → r.l = [] ∧ r.com = 0) (h2 : ∀ c, c ∈ cs → c = 0) (h3 : cs.length = tl.length + 1) : FInv ⟨[], 0, p⟩ tl cs [] := by
 have hr : ∀ (j : Nat) (r : Rl), (Rl.mk [] 0 p :: tl)[j]? = some r → r.l = [] ∧ r.com = 0 := by
  intro j r h
  cases j with
  | zero => simp at h; subst h; exact ⟨rfl, rfl⟩
  | succ j => exact h1 r (List.mem_of_getElem? (by simpa using h))
 refine ⟨h3, by simp, by simp, fun j r c k1 k2 => ?_, ?_, fun t h => by simp at h⟩
 ·obtain ⟨e1, e2⟩ := hr j r k1
  have e3 := h2 c (List.mem_of_getElem? k2)
  exact ⟨by simp [e1], by simp [e1], by simp [e2], by simp [e1, e2], by simp [e2], by simp [e3], by simp [e1, e3]⟩
 ·have : (cs.filter fun c => decide ((0 : Int) ≤ c)) = cs := List.filter_eq_self.2 fun c hc => by simp [h2 c hc]
  show _ ≤ (cs.filter fun c => decide ((0 : Int) ≤ c)).length
  rw [this, h3]; omega
structure StepR where
 k : Int
 x : Int
 n : Int
 i : Int
def encS (x : StepR) : List PL := [.sint 0 x.k, .sint 0 x.x, .sint 0 x.n, .sint 0 x.i]
theorem var_ok {b x y : Bool} (h : (Bool.rec (motive := fun _ => Bool) x y b) = true) : (b = true ∧ y = true) ∨ (b = false ∧ x = true) := by cases b; exact .inr ⟨rfl, h⟩; exact .inl ⟨rfl, h⟩
noncomputable def andQ (a b : Bool) : Bool := Bool.rec false b a
noncomputable def argZ (us : List AV) (a c : Nat) : Nat := match nth us a with
 | some (.agg l) => match nth l c with
  | some (.int _ (.ofNat z)) => z
  | _ => 999
 | _ => 999
def ft_knows : XF := .mk 36 (.one 0) (.seq (g_ 1 [p_ 0 0 (.mv (.c (.bool false)))]) (.seq (g_ 4 [c_ 0 4 8 [i_ 3], c_ 1 5 9 [i_ 0], c_ 2 6 7 [.t 4, .t 5, .c .nilS], p_ 3 1 (m_ 6)]) (.seq (g_ 4 [p_ 0 7 (m_ 1), c_ 1 8 11 [i_ 1], c_ 2 9 10 [.t 7, .t 8], p_ 3 2 (m_ 9)]) (.seq (g_ 3 [p_ 0 10 (m_ 1), c_ 1 11 14 [.t 10], p_ 2 3 (m_ 11)]) (.seq (g_ 3 [p_ 0 12 (m_ 1), c_ 1 13 9 [i_ 2], c_ 2 14 19 [.t 12, .t 13, i_ 1]]) (.seq (g_ 22 [p_ 0 15 (m_ 2), c_ 1 16 12 [.t 15], p_ 2 17 (.bin 3 4 (.t 16) (i_ 0)), p_ 3 18 (m_ 17), pg_ 4 19 18 true (m_ 3), pg_ 5 20 18 true (.bin 3 4 (.t 19) (i_ 0)), p_ 6 21 (.pick (.t 18) (.t 20) (.c (.bool false))), p_ 7 22 (m_ 21), pg_ 8 23 22 true (m_ 1), cg_ 9 24 22 true 14 [.t 23], pg_ 10 25 22 true (.bin 3 4 (.t 24) (i_ 1)), p_ 11 26 (.pick (.t 22) (.t 25) (.c (.bool false))), p_ 12 27 (m_ 26), pg_ 13 28 27 true (m_ 1), cg_ 14 29 27 true 15 [.t 28], pg_ 15 30 27 true (.bin 3 4 (.t 29) (i_ 1)), p_ 16 31 (.pick (.t 27) (.t 30) (.c (.bool false))), p_ 17 32 (m_ 31), pg_ 18 33 32 true (m_ 1), cg_ 19 34 32 true 26 [.t 33], p_ 20 35 (.pick (.t 32) (.t 34) (.c (.bool false))), p_ 21 0 (m_ 35)]) .ret))))))
theorem ft_knows_ok : chkF Try.prog 16 ft_knows = true := by kernel_rfl
abbrev A_knows := Unit
noncomputable def I_knows (p : A_knows) : IE := ([], .leaf, 0)
noncomputable def out_knows (p : A_knows) (K : KE) : Bool := K (.bool true) .leaf 0
theorem vf_knows (p : A_knows) (K : KE) (hK : out_knows p K = true) : (funE 0 (cfT nat0) noLp 600 ft_knows (I_knows p).1 (I_knows p).2.1 (I_knows p).2.2 K) = true := by
 refine Eq.trans (b := (let z0 : Bool := (K (.bool true) .leaf 0); must (must (must (must (must (must (must (must z0 (true)) (must (must z0 (true)) (true))) (must (must (must z0 (true)) (must (must z0 (true)) (true))) (must (must (must z0 (true)) (must (must z0 (true)) (true))) (true)))) (true)) (must (must (must (must (must z0 (true)) (must (must z0 (true)) (true))) (must (must (must z0 (true)) (must (must z0 (true)) (true))) (must (must (must z0 (true)) (must (must z0 (true)) (true))) (true)))) (true)) (true))) (must (must (must (must (must (must z0 (true)) (must (must z0 (true)) (true))) (must (must (must z0 (true)) (must (must z0 (true)) (true))) (must (must (must z0 (true)) (must (must z0 (true)) (true))) (true)))) (true)) (must (must (must (must (must z0 (true)) (must (must z0 (true)) (true))) (must (must (must z0 (true)) (must (must z0 (true)) (true))) (must (must (must z0 (true)) (must (must z0 (true)) (true))) (true)))) (true)) (true))) (must (must (must (must (must (must z0 (true)) (must (must z0 (true)) (true))) (must (must (must z0 (true)) (must (must z0 (true)) (true))) (must (must (must z0 (true)) (must (must z0 (true)) (true))) (true)))) (true)) (must (must (must (must (must z0 (true)) (must (must z0 (true)) (true))) (must (must (must z0 (true)) (must (must z0 (true)) (true))) (must (must (must z0 (true)) (must (must z0 (true)) (true))) (true)))) (true)) (true))) (true)))) (must (must (must (must (must (must z0 (true)) (must (must z0 (true)) (true))) (must (must (must z0 (true)) (must (must z0 (true)) (true))) (must (must (must z0 (true)) (must (must z0 (true)) (true))) (true)))) (true)) (must (must (must (must (must z0 (true)) (must (must z0 (true)) (true))) (must (must (must z0 (true)) (must (must z0 (true)) (true))) (must (must (must z0 (true)) (must (must z0 (true)) (true))) (true)))) (true)) (true))) (must (must (must (must (must (must z0 (true)) (must (must z0 (true)) (true))) (must (must (must z0 (true)) (must (must z0 (true)) (true))) (must (must (must z0 (true)) (must (must z0 (true)) (true))) (true)))) (true)) (must (must (must (must (must z0 (true)) (must (must z0 (true)) (true))) (must (must (must z0 (true)) (must (must z0 (true)) (true))) (must (must (must z0 (true)) (must (must z0 (true)) (true))) (true)))) (true)) (true))) (must (must (must (must (must (must z0 (true)) (must (must z0 (true)) (true))) (must (must (must z0 (true)) (must (must z0 (true)) (true))) (must (must (must z0 (true)) (must (must z0 (true)) (true))) (true)))) (true)) (must (must (must (must (must z0 (true)) (must (must z0 (true)) (true))) (must (must (must z0 (true)) (must (must z0 (true)) (true))) (must (must (must z0 (true)) (must (must z0 (true)) (true))) (true)))) (true)) (true))) (true))))) (must (must (must (must (must (must z0 (true)) (must (must z0 (true)) (true))) (must (must (must z0 (true)) (must (must z0 (true)) (true))) (must (must (must z0 (true)) (must (must z0 (true)) (true))) (true)))) (true)) (must (must (must (must (must z0 (true)) (must (must z0 (true)) (true))) (must (must (must z0 (true)) (must (must z0 (true)) (true))) (must (must (must z0 (true)) (must (must z0 (true)) (true))) (true)))) (true)) (true))) (must (must (must (must (must (must z0 (true)) (must (must z0 (true)) (true))) (must (must (must z0 (true)) (must (must z0 (true)) (true))) (must (must (must z0 (true)) (must (must z0 (true)) (true))) (true)))) (true)) (must (must (must (must (must z0 (true)) (must (must z0 (true)) (true))) (must (must (must z0 (true)) (must (must z0 (true)) (true))) (must (must (must z0 (true)) (must (must z0 (true)) (true))) (true)))) (true)) (true))) (must (must (must (must (must (must z0 (true)) (must (must z0 (true)) (true))) (must (must (must z0 (true)) (must (must z0 (true)) (true))) (must (must (must z0 (true)) (must (must z0 (true)) (true))) (true)))) (true)) (must (must (must (must (must z0 (true)) (must (must z0 (true)) (true))) (must (must (must z0 (true)) (must (must z0 (true)) (true))) (must (must (must z0 (true)) (must (must z0 (true)) (true))) (true)))) (true)) (true))) (true)))))) (by kernel_rfl) ?_
 repeat' (first | exact hK | refine mI rfl ?_ | refine must_mk ?_ ?_ | exact rfl)
noncomputable def nat_knows := natC nat_step5 0 (esOf I_knows out_knows) 16 []
theorem nat_knows_ok : NatsOk Try.prog nat_knows := natC_ok (natE_pn (f := 16) (k := 0) (cfT_ok nat0_ok) ft_knows_ok (by rfl) (by rfl) vf_knows) nat_step5_ok
def ft_new10 : XF := .mk 52 (.one 6) (.aft (.seq (g_ 3 [e_ 0 3 (.box 27 (.t 0)), e_ 1 4 (.box 31 (.t 1)), p_ 2 6 (.mv (.c .nilP))]) (.seq (.seq (g_ 14 [r_ 0 10 (.ld true 3 (.t 3)), c_ 1 11 30 [.t 10], p_ 2 12 (.un 0 (.t 11)), p_ 3 13 (m_ 12), rg_ 4 14 13 false (.ld true 3 (.t 3)), rg_ 5 15 13 false (.ld true 2 (.t 4)), cg_ 6 16 13 false 31 [.t 14, .t 15], pg_ 7 17 13 false (.bin 3 0 (.t 16) (i_ 0)), p_ 8 18 (.pick (.t 13) (.c (.bool true)) (.t 17)), p_ 9 19 (m_ 18), pg_ 10 20 19 false (m_ 2), pg_ 11 21 19 false (k_ 20), pg_ 12 22 19 false (.bin 3 2 (.t 21) (i_ 400)), p_ 13 23 (.pick (.t 19) (.c (.bool true)) (.t 22))]) (.cond (.t 23) (.seq (g_ 1 [p_ 0 6 (.mv (.c .nilP))]) .ret) .skip)) (.seq (.reg true 13 (.split 1 9 (.split 4 9 (.leaf [r_ 0 24 (.ld true 3 (.t 3)), r_ 2 26 (.ld true 2 (.t 4)), p_ 3 27 (m_ 2), p_ 5 29 (m_ 2), p_ 6 30 (k_ 29), p_ 7 31 (m_ 2), p_ 8 32 (k_ 31), c_ 1 25 32 [.t 24], a_ 2 26 (.ld true 2 (.t 4)), c_ 4 28 33 [.t 27], a_ 2 26 (.ld true 2 (.t 4)), e_ 9 33 .mkm, a_ 2 26 (.ld true 2 (.t 4)), p_ 10 34 (.bld [.int 1 (.ofNat 0), .int 3 (.ofNat 0), .nilS, .int 1 (.ofNat 0), .int 2 (.ofNat 0), .nilS, .int 0 (.ofNat 0), .int 0 (.ofNat 0), .bool false, .nilM] [(0, 3), (3, 2), (5, 1), (6, 1), (7, 1), (9, 1)] [.t 25, .t 26, .t 28, .t 30, .t 32, .t 33]), e_ 11 35 (.box 67 (.t 34)), p_ 12 7 (m_ 35)]) (.leaf [r_ 0 24 (.ld true 3 (.t 3)), r_ 2 26 (.ld true 2 (.t 4)), p_ 3 27 (m_ 2), p_ 5 29 (m_ 2), p_ 6 30 (k_ 29), p_ 7 31 (m_ 2), p_ 8 32 (k_ 31), c_ 1 25 32 [.t 24], a_ 2 26 (.ld true 2 (.t 4)), e_ 9 33 .mkm, a_ 2 26 (.ld true 2 (.t 4)), c_ 4 28 33 [.t 27], a_ 2 26 (.ld true 2 (.t 4)), p_ 10 34 (.bld [.int 1 (.ofNat 0), .int 3 (.ofNat 0), .nilS, .int 1 (.ofNat 0), .int 2 (.ofNat 0), .nilS, .int 0 (.ofNat 0), .int 0 (.ofNat 0), .bool false, .nilM] [(0, 3), (3, 2), (5, 1), (6, 1), (7, 1), (9, 1)] [.t 25, .t 26, .t 28, .t 30, .t 32, .t 33]), e_ 11 35 (.box 67 (.t 34)), p_ 12 7 (m_ 35)])) (.leaf [r_ 0 24 (.ld true 3 (.t 3)), r_ 2 26 (.ld true 2 (.t 4)), p_ 3 27 (m_ 2), p_ 5 29 (m_ 2), p_ 6 30 (k_ 29), p_ 7 31 (m_ 2), p_ 8 32 (k_ 31), e_ 9 33 .mkm, a_ 0 24 (.ld true 3 (.t 3)), a_ 2 26 (.ld true 2 (.t 4)), c_ 1 25 32 [.t 24], a_ 2 26 (.ld true 2 (.t 4)), c_ 4 28 33 [.t 27], a_ 2 26 (.ld true 2 (.t 4)), p_ 10 34 (.bld [.int 1 (.ofNat 0), .int 3 (.ofNat 0), .nilS, .int 1 (.ofNat 0), .int 2 (.ofNat 0), .nilS, .int 0 (.ofNat 0), .int 0 (.ofNat 0), .bool false, .nilM] [(0, 3), (3, 2), (5, 1), (6, 1), (7, 1), (9, 1)] [.t 25, .t 26, .t 28, .t 30, .t 32, .t 33]), e_ 11 35 (.box 67 (.t 34)), p_ 12 7 (m_ 35)]))) (.seq (.seq (g_ 4 [p_ 0 36 (f_ 2 3), r_ 1 37 (l_ 36), p_ 2 38 (k_ 37), p_ 3 39 (.mv (i_ 0))]) (.block 2 (.loop [2, 6, 7, 9, 37, 38, 39, 40, 41, 42, 43, 44, 45, 46, 47, 48, 49, 50, 51] (.seq (g_ 1 [p_ 0 40 (.bin 3 0 (.t 39) (.t 38))]) (.seq (.cond (.t 40) .skip (.exit 2)) (.seq (.block 3 (.seq (g_ 4 [p_ 0 41 (.ixs 2 (.t 37) (.t 39)), r_ 1 42 (.ld true 2 (.t 41)), e_ 2 9 (.al 31 [.int 1 (.ofNat 0), .int 2 (.ofNat 0)]), e0_ 3 (.st 2 (.t 9) (.t 42))]) (h_ 8 [p_ 0 43 (m_ 7), p_ 1 44 (n_ 43), p_ 2 45 (f_ 9 44), r_ 3 46 (l_ 45), r_ 4 47 (.ld true 2 (.t 9)), p_ 5 48 (m_ 2), p_ 6 49 (k_ 48), e0_ 7 (.mu 2 (.st [(0, 1, false, .int), (1, 1, false, .int)]) (.t 46) (.t 47) (.t 49))]))) (g_ 2 [p_ 0 50 (.bin 0 0 (.t 39) (i_ 1)), p_ 1 39 (m_ 50)]))))))) (.seq (g_ 2 [p_ 0 51 (m_ 7), p_ 1 6 (m_ 51)]) .ret))))) [(1, [.can 0 [6], .cell 0 0 5 45 18 Int encK, .upc 0 0 7, .upc 0 0 8, .can 0 [6], .upm 3])])
theorem ft_new10_ok : chkF Try.prog 7 ft_new10 = true := by kernel_rfl
abbrev A_new10 := Unit
noncomputable def I_new10 (p : A_new10) : IE := ([.agg [.int 1 (.ofNat 0), .int 3 (.ofNat 1), .sl 0 0 1 (.rest 0)], .agg [.int 1 (.ofNat 0), .int 2 (.ofNat 1)], .nilS], (.node .leaf (some (.blk true 31 2 [[.int 1 (.ofNat 0), .int 2 (.ofNat 1)]])) .leaf), 1)
noncomputable def out_new10 (p : A_new10) (K : KE) : Bool := K (.ptr 0 0) (Ro1n ([] : List Int) 0 (false = true) 0) 4
theorem vf_new10 (p : A_new10) (K : KE) (hK : out_new10 p K = true) : (funE 0 (cfT nat0) noLp 600 ft_new10 (I_new10 p).1 (I_new10 p).2.1 (I_new10 p).2.2 K) = true := by
 refine Eq.trans (b := (let z0 : Bool := (K (.ptr 0 0) (Ro1 ([] : List Int) 0 (false = true) 0 0) 4); must (must (mP ((.sl 2 0 0 (.ex 0) : AV) = (.sl 2 0 0 (.ex 0) : AV)) z0) (mP ((.sl 2 0 0 (.ex 0) : AV) = (.sl 2 0 0 (.ex 0) : AV)) z0)) (mP ((.sl 2 0 0 (.ex 0) : AV) = (.sl 2 0 0 (.ex 0) : AV)) z0))) (by kernel_rfl) ?_
 repeat' (first | exact hK | refine mI rfl ?_ | refine must_mk ?_ ?_)
noncomputable def ec_new10 : SpecE := tstE (fun us M => andQ (Nat.beq (nEl M 0) 1) (Nat.beq (argZ us 1 0) 0)) (esOf I_new10 out_new10) (fun _ _ _ _ => false)
theorem nc_new10 : NatE Try.prog 7 0 ec_new10 := tstE_ok (natE_pn (f := 7) (k := 0) (cfT_ok nat0_ok) ft_new10_ok (by rfl) (by rfl) vf_new10) natE_no
noncomputable def nat_new10 := natC nat_knows 0 ec_new10 7 [(0, 15), (1, 15), (2, 8)]
theorem nat_new10_ok : NatsOk Try.prog nat_new10 := natC_ok nc_new10 nat_knows_ok
def ft_new20 : XF := ft_new10
theorem ft_new20_ok : chkF Try.prog 7 ft_new20 = true := ft_new10_ok
abbrev A_new20 := Unit
noncomputable def I_new20 (p : A_new20) : IE := ([.agg [.int 1 (.ofNat 0), .int 3 (.ofNat 1), .sl 0 0 2 (.rest 0)], .agg [.int 1 (.ofNat 0), .int 2 (.ofNat 1)], .nilS], (.node .leaf (some (.blk true 31 2 [[.int 1 (.ofNat 0), .int 2 (.ofNat 1)], [.int 1 (.ofNat 1), .int 2 (.ofNat 1)]])) .leaf), 1)
noncomputable def out_new20 (p : A_new20) (K : KE) : Bool := K (.ptr 0 0) (Ro2n ([] : List Int) 0 (false = true) 0 0) 4
theorem vf_new20 (p : A_new20) (K : KE) (hK : out_new20 p K = true) : (funE 0 (cfT nat0) noLp 600 ft_new20 (I_new20 p).1 (I_new20 p).2.1 (I_new20 p).2.2 K) = true := by
 refine Eq.trans (b := (let z0 : Bool := (K (.ptr 0 0) (Ro2 ([] : List Int) 0 (false = true) 0 0 0) 4); must (must (mP ((.sl 2 0 0 (.ex 0) : AV) = (.sl 2 0 0 (.ex 0) : AV)) z0) (mP ((.sl 2 0 0 (.ex 0) : AV) = (.sl 2 0 0 (.ex 0) : AV)) z0)) (mP ((.sl 2 0 0 (.ex 0) : AV) = (.sl 2 0 0 (.ex 0) : AV)) z0))) (by kernel_rfl) ?_
 repeat' (first | exact hK | refine mI rfl ?_ | refine must_mk ?_ ?_)
noncomputable def ec_new20 : SpecE := tstE (fun us M => andQ (Nat.beq (nEl M 0) 2) (Nat.beq (argZ us 1 0) 0)) (esOf I_new20 out_new20) ec_new10
theorem nc_new20 : NatE Try.prog 7 0 ec_new20 := tstE_ok (natE_pn (f := 7) (k := 0) (cfT_ok nat0_ok) ft_new20_ok (by rfl) (by rfl) vf_new20) nc_new10
noncomputable def nat_new20 := natC nat_new10 0 ec_new20 7 [(0, 15), (1, 15), (2, 8)]
theorem nat_new20_ok : NatsOk Try.prog nat_new20 := natC_ok nc_new20 nat_new10_ok
def ft_new21 : XF := .mk 52 (.one 6) (.aft (.seq (g_ 3 [e_ 0 3 (.box 27 (.t 0)), e_ 1 4 (.box 31 (.t 1)), p_ 2 6 (.mv (.c .nilP))]) (.seq (.seq (g_ 14 [r_ 0 10 (.ld true 3 (.t 3)), c_ 1 11 30 [.t 10], p_ 2 12 (.un 0 (.t 11)), p_ 3 13 (m_ 12), rg_ 4 14 13 false (.ld true 3 (.t 3)), rg_ 5 15 13 false (.ld true 2 (.t 4)), cg_ 6 16 13 false 31 [.t 14, .t 15], pg_ 7 17 13 false (.bin 3 0 (.t 16) (i_ 0)), p_ 8 18 (.pick (.t 13) (.c (.bool true)) (.t 17)), p_ 9 19 (m_ 18), pg_ 10 20 19 false (m_ 2), pg_ 11 21 19 false (k_ 20), pg_ 12 22 19 false (.bin 3 2 (.t 21) (i_ 400)), p_ 13 23 (.pick (.t 19) (.c (.bool true)) (.t 22))]) (.cond (.t 23) (.seq (g_ 1 [p_ 0 6 (.mv (.c .nilP))]) .ret) .skip)) (.seq (.reg true 13 (.split 1 9 (.split 4 9 (.leaf [r_ 0 24 (.ld true 3 (.t 3)), r_ 2 26 (.ld true 2 (.t 4)), p_ 3 27 (m_ 2), p_ 5 29 (m_ 2), p_ 6 30 (k_ 29), p_ 7 31 (m_ 2), p_ 8 32 (k_ 31), c_ 1 25 32 [.t 24], a_ 2 26 (.ld true 2 (.t 4)), c_ 4 28 33 [.t 27], a_ 2 26 (.ld true 2 (.t 4)), e_ 9 33 .mkm, a_ 2 26 (.ld true 2 (.t 4)), p_ 10 34 (.bld [.int 1 (.ofNat 0), .int 3 (.ofNat 0), .nilS, .int 1 (.ofNat 0), .int 2 (.ofNat 0), .nilS, .int 0 (.ofNat 0), .int 0 (.ofNat 0), .bool false, .nilM] [(0, 3), (3, 2), (5, 1), (6, 1), (7, 1), (9, 1)] [.t 25, .t 26, .t 28, .t 30, .t 32, .t 33]), e_ 11 35 (.box 67 (.t 34)), p_ 12 7 (m_ 35)]) (.leaf [r_ 0 24 (.ld true 3 (.t 3)), r_ 2 26 (.ld true 2 (.t 4)), p_ 3 27 (m_ 2), p_ 5 29 (m_ 2), p_ 6 30 (k_ 29), p_ 7 31 (m_ 2), p_ 8 32 (k_ 31), c_ 1 25 32 [.t 24], a_ 2 26 (.ld true 2 (.t 4)), e_ 9 33 .mkm, a_ 2 26 (.ld true 2 (.t 4)), c_ 4 28 33 [.t 27], a_ 2 26 (.ld true 2 (.t 4)), p_ 10 34 (.bld [.int 1 (.ofNat 0), .int 3 (.ofNat 0), .nilS, .int 1 (.ofNat 0), .int 2 (.ofNat 0), .nilS, .int 0 (.ofNat 0), .int 0 (.ofNat 0), .bool false, .nilM] [(0, 3), (3, 2), (5, 1), (6, 1), (7, 1), (9, 1)] [.t 25, .t 26, .t 28, .t 30, .t 32, .t 33]), e_ 11 35 (.box 67 (.t 34)), p_ 12 7 (m_ 35)])) (.leaf [r_ 0 24 (.ld true 3 (.t 3)), r_ 2 26 (.ld true 2 (.t 4)), p_ 3 27 (m_ 2), p_ 5 29 (m_ 2), p_ 6 30 (k_ 29), p_ 7 31 (m_ 2), p_ 8 32 (k_ 31), e_ 9 33 .mkm, a_ 0 24 (.ld true 3 (.t 3)), a_ 2 26 (.ld true 2 (.t 4)), c_ 1 25 32 [.t 24], a_ 2 26 (.ld true 2 (.t 4)), c_ 4 28 33 [.t 27], a_ 2 26 (.ld true 2 (.t 4)), p_ 10 34 (.bld [.int 1 (.ofNat 0), .int 3 (.ofNat 0), .nilS, .int 1 (.ofNat 0), .int 2 (.ofNat 0), .nilS, .int 0 (.ofNat 0), .int 0 (.ofNat 0), .bool false, .nilM] [(0, 3), (3, 2), (5, 1), (6, 1), (7, 1), (9, 1)] [.t 25, .t 26, .t 28, .t 30, .t 32, .t 33]), e_ 11 35 (.box 67 (.t 34)), p_ 12 7 (m_ 35)]))) (.seq (.seq (g_ 4 [p_ 0 36 (f_ 2 3), r_ 1 37 (l_ 36), p_ 2 38 (k_ 37), p_ 3 39 (.mv (i_ 0))]) (.block 2 (.loop [2, 6, 7, 9, 37, 38, 39, 40, 41, 42, 43, 44, 45, 46, 47, 48, 49, 50, 51] (.seq (g_ 1 [p_ 0 40 (.bin 3 0 (.t 39) (.t 38))]) (.seq (.cond (.t 40) .skip (.exit 2)) (.seq (.block 3 (.seq (g_ 4 [p_ 0 41 (.ixs 2 (.t 37) (.t 39)), r_ 1 42 (.ld true 2 (.t 41)), e_ 2 9 (.al 31 [.int 1 (.ofNat 0), .int 2 (.ofNat 0)]), e0_ 3 (.st 2 (.t 9) (.t 42))]) (h_ 8 [p_ 0 43 (m_ 7), p_ 1 44 (n_ 43), p_ 2 45 (f_ 9 44), r_ 3 46 (l_ 45), r_ 4 47 (.ld true 2 (.t 9)), p_ 5 48 (m_ 2), p_ 6 49 (k_ 48), e0_ 7 (.mu 2 (.st [(0, 1, false, .int), (1, 1, false, .int)]) (.t 46) (.t 47) (.t 49))]))) (g_ 2 [p_ 0 50 (.bin 0 0 (.t 39) (i_ 1)), p_ 1 39 (m_ 50)]))))))) (.seq (g_ 2 [p_ 0 51 (m_ 7), p_ 1 6 (m_ 51)]) .ret))))) [(1, [.can 0 [6], .cell 0 0 5 45 18 Int encK, .upc 0 0 7, .upc 0 0 8, .upc 0 0 3, .can 0 [6], .upm 3])])
theorem ft_new21_ok : chkF Try.prog 7 ft_new21 = true := by kernel_rfl
abbrev A_new21 := Unit
noncomputable def I_new21 (p : A_new21) : IE := ([.agg [.int 1 (.ofNat 0), .int 3 (.ofNat 1), .sl 0 0 2 (.rest 0)], .agg [.int 1 (.ofNat 1), .int 2 (.ofNat 1)], .nilS], (.node .leaf (some (.blk true 31 2 [[.int 1 (.ofNat 0), .int 2 (.ofNat 1)], [.int 1 (.ofNat 1), .int 2 (.ofNat 1)]])) .leaf), 1)
noncomputable def out_new21 (p : A_new21) (K : KE) : Bool := K (.ptr 0 0) (Rm2n ([] : List Int) 0 (false = true) 0 0 1) 4
theorem vf_new21 (p : A_new21) (K : KE) (hK : out_new21 p K = true) : (funE 0 (cfT nat0) noLp 600 ft_new21 (I_new21 p).1 (I_new21 p).2.1 (I_new21 p).2.2 K) = true := by
 refine Eq.trans (b := (let z0 : Bool := (K (.ptr 0 0) (Rm2 ([] : List Int) 0 (false = true) 0 0 1 0) 4); must (must (mP ((.sl 2 0 0 (.ex 0) : AV) = (.sl 2 0 0 (.ex 0) : AV)) z0) (mP ((.sl 2 0 0 (.ex 0) : AV) = (.sl 2 0 0 (.ex 0) : AV)) z0)) (mP ((.sl 2 0 0 (.ex 0) : AV) = (.sl 2 0 0 (.ex 0) : AV)) z0))) (by kernel_rfl) ?_
 repeat' (first | exact hK | refine mI rfl ?_ | refine must_mk ?_ ?_)
noncomputable def ec_new21 : SpecE := tstE (fun us M => andQ (Nat.beq (nEl M 0) 2) (Nat.beq (argZ us 1 0) 1)) (esOf I_new21 out_new21) ec_new20
theorem nc_new21 : NatE Try.prog 7 0 ec_new21 := tstE_ok (natE_pn (f := 7) (k := 0) (cfT_ok nat0_ok) ft_new21_ok (by rfl) (by rfl) vf_new21) nc_new20
noncomputable def nat_new21 := natC nat_new20 0 ec_new21 7 [(0, 15), (1, 15), (2, 8)]
theorem nat_new21_ok : NatsOk Try.prog nat_new21 := natC_ok nc_new21 nat_new20_ok
def ft_new30 : XF := ft_new10
theorem ft_new30_ok : chkF Try.prog 7 ft_new30 = true := ft_new10_ok
abbrev A_new30 := Unit
noncomputable def I_new30 (p : A_new30) : IE := ([.agg [.int 1 (.ofNat 0), .int 3 (.ofNat 1), .sl 0 0 3 (.rest 0)], .agg [.int 1 (.ofNat 0), .int 2 (.ofNat 1)], .nilS], (.node .leaf (some (.blk true 31 2 [[.int 1 (.ofNat 0), .int 2 (.ofNat 1)], [.int 1 (.ofNat 1), .int 2 (.ofNat 1)], [.int 1 (.ofNat 2), .int 2 (.ofNat 1)]])) .leaf), 1)
noncomputable def out_new30 (p : A_new30) (K : KE) : Bool := K (.ptr 0 0) (Ro3n ([] : List Int) 0 (false = true) 0 0 0) 4
theorem vf_new30 (p : A_new30) (K : KE) (hK : out_new30 p K = true) : (funE 0 (cfT nat0) noLp 600 ft_new30 (I_new30 p).1 (I_new30 p).2.1 (I_new30 p).2.2 K) = true := by
 refine Eq.trans (b := (let z0 : Bool := (K (.ptr 0 0) (Ro3 ([] : List Int) 0 (false = true) 0 0 0 0) 4); must (must (mP ((.sl 2 0 0 (.ex 0) : AV) = (.sl 2 0 0 (.ex 0) : AV)) z0) (mP ((.sl 2 0 0 (.ex 0) : AV) = (.sl 2 0 0 (.ex 0) : AV)) z0)) (mP ((.sl 2 0 0 (.ex 0) : AV) = (.sl 2 0 0 (.ex 0) : AV)) z0))) (by kernel_rfl) ?_
 repeat' (first | exact hK | refine mI rfl ?_ | refine must_mk ?_ ?_)
noncomputable def ec_new30 : SpecE := tstE (fun us M => andQ (Nat.beq (nEl M 0) 3) (Nat.beq (argZ us 1 0) 0)) (esOf I_new30 out_new30) ec_new21
theorem nc_new30 : NatE Try.prog 7 0 ec_new30 := tstE_ok (natE_pn (f := 7) (k := 0) (cfT_ok nat0_ok) ft_new30_ok (by rfl) (by rfl) vf_new30) nc_new21
noncomputable def nat_new30 := natC nat_new21 0 ec_new30 7 [(0, 15), (1, 15), (2, 8)]
theorem nat_new30_ok : NatsOk Try.prog nat_new30 := natC_ok nc_new30 nat_new21_ok
def ft_new31 : XF := ft_new21
theorem ft_new31_ok : chkF Try.prog 7 ft_new31 = true := ft_new21_ok
abbrev A_new31 := Unit
noncomputable def I_new31 (p : A_new31) : IE := ([.agg [.int 1 (.ofNat 0), .int 3 (.ofNat 1), .sl 0 0 3 (.rest 0)], .agg [.int 1 (.ofNat 1), .int 2 (.ofNat 1)], .nilS], (.node .leaf (some (.blk true 31 2 [[.int 1 (.ofNat 0), .int 2 (.ofNat 1)], [.int 1 (.ofNat 1), .int 2 (.ofNat 1)], [.int 1 (.ofNat 2), .int 2 (.ofNat 1)]])) .leaf), 1)
noncomputable def out_new31 (p : A_new31) (K : KE) : Bool := K (.ptr 0 0) (Rm3n ([] : List Int) 0 (false = true) 0 0 0 1) 4
theorem vf_new31 (p : A_new31) (K : KE) (hK : out_new31 p K = true) : (funE 0 (cfT nat0) noLp 600 ft_new31 (I_new31 p).1 (I_new31 p).2.1 (I_new31 p).2.2 K) = true := by
 refine Eq.trans (b := (let z0 : Bool := (K (.ptr 0 0) (Rm3 ([] : List Int) 0 (false = true) 0 0 0 1 0) 4); must (must (mP ((.sl 2 0 0 (.ex 0) : AV) = (.sl 2 0 0 (.ex 0) : AV)) z0) (mP ((.sl 2 0 0 (.ex 0) : AV) = (.sl 2 0 0 (.ex 0) : AV)) z0)) (mP ((.sl 2 0 0 (.ex 0) : AV) = (.sl 2 0 0 (.ex 0) : AV)) z0))) (by kernel_rfl) ?_
 repeat' (first | exact hK | refine mI rfl ?_ | refine must_mk ?_ ?_)
noncomputable def ec_new31 : SpecE := tstE (fun us M => andQ (Nat.beq (nEl M 0) 3) (Nat.beq (argZ us 1 0) 1)) (esOf I_new31 out_new31) ec_new30
theorem nc_new31 : NatE Try.prog 7 0 ec_new31 := tstE_ok (natE_pn (f := 7) (k := 0) (cfT_ok nat0_ok) ft_new31_ok (by rfl) (by rfl) vf_new31) nc_new30
noncomputable def nat_new31 := natC nat_new30 0 ec_new31 7 [(0, 15), (1, 15), (2, 8)]
theorem nat_new31_ok : NatsOk Try.prog nat_new31 := natC_ok nc_new31 nat_new30_ok
def ft_new32 : XF := ft_new21
theorem ft_new32_ok : chkF Try.prog 7 ft_new32 = true := ft_new21_ok
abbrev A_new32 := Unit
noncomputable def I_new32 (p : A_new32) : IE := ([.agg [.int 1 (.ofNat 0), .int 3 (.ofNat 1), .sl 0 0 3 (.rest 0)], .agg [.int 1 (.ofNat 2), .int 2 (.ofNat 1)], .nilS], (.node .leaf (some (.blk true 31 2 [[.int 1 (.ofNat 0), .int 2 (.ofNat 1)], [.int 1 (.ofNat 1), .int 2 (.ofNat 1)], [.int 1 (.ofNat 2), .int 2 (.ofNat 1)]])) .leaf), 1)
noncomputable def out_new32 (p : A_new32) (K : KE) : Bool := K (.ptr 0 0) (Rm3n ([] : List Int) 0 (false = true) 0 0 0 2) 4
theorem vf_new32 (p : A_new32) (K : KE) (hK : out_new32 p K = true) : (funE 0 (cfT nat0) noLp 600 ft_new32 (I_new32 p).1 (I_new32 p).2.1 (I_new32 p).2.2 K) = true := by
 refine Eq.trans (b := (let z0 : Bool := (K (.ptr 0 0) (Rm3 ([] : List Int) 0 (false = true) 0 0 0 2 0) 4); must (must (mP ((.sl 2 0 0 (.ex 0) : AV) = (.sl 2 0 0 (.ex 0) : AV)) z0) (mP ((.sl 2 0 0 (.ex 0) : AV) = (.sl 2 0 0 (.ex 0) : AV)) z0)) (mP ((.sl 2 0 0 (.ex 0) : AV) = (.sl 2 0 0 (.ex 0) : AV)) z0))) (by kernel_rfl) ?_
 repeat' (first | exact hK | refine mI rfl ?_ | refine must_mk ?_ ?_)
noncomputable def ec_new32 : SpecE := tstE (fun us M => andQ (Nat.beq (nEl M 0) 3) (Nat.beq (argZ us 1 0) 2)) (esOf I_new32 out_new32) ec_new31
theorem nc_new32 : NatE Try.prog 7 0 ec_new32 := tstE_ok (natE_pn (f := 7) (k := 0) (cfT_ok nat0_ok) ft_new32_ok (by rfl) (by rfl) vf_new32) nc_new31
noncomputable def nat_new32 := natC nat_new31 0 ec_new32 7 [(0, 15), (1, 15), (2, 8)]
theorem nat_new32_ok : NatsOk Try.prog nat_new32 := natC_ok nc_new32 nat_new31_ok
def ft_new40 : XF := ft_new10
theorem ft_new40_ok : chkF Try.prog 7 ft_new40 = true := ft_new10_ok
abbrev A_new40 := Unit
noncomputable def I_new40 (p : A_new40) : IE := ([.agg [.int 1 (.ofNat 0), .int 3 (.ofNat 1), .sl 0 0 4 (.rest 0)], .agg [.int 1 (.ofNat 0), .int 2 (.ofNat 1)], .nilS], (.node .leaf (some (.blk true 31 2 [[.int 1 (.ofNat 0), .int 2 (.ofNat 1)], [.int 1 (.ofNat 1), .int 2 (.ofNat 1)], [.int 1 (.ofNat 2), .int 2 (.ofNat 1)], [.int 1 (.ofNat 3), .int 2 (.ofNat 1)]])) .leaf), 1)
noncomputable def out_new40 (p : A_new40) (K : KE) : Bool := K (.ptr 0 0) (Ro4n ([] : List Int) 0 (false = true) 0 0 0 0) 4
theorem vf_new40 (p : A_new40) (K : KE) (hK : out_new40 p K = true) : (funE 0 (cfT nat0) noLp 600 ft_new40 (I_new40 p).1 (I_new40 p).2.1 (I_new40 p).2.2 K) = true := by
 refine Eq.trans (b := (let z0 : Bool := (K (.ptr 0 0) (Ro4 ([] : List Int) 0 (false = true) 0 0 0 0 0) 4); must (must (mP ((.sl 2 0 0 (.ex 0) : AV) = (.sl 2 0 0 (.ex 0) : AV)) z0) (mP ((.sl 2 0 0 (.ex 0) : AV) = (.sl 2 0 0 (.ex 0) : AV)) z0)) (mP ((.sl 2 0 0 (.ex 0) : AV) = (.sl 2 0 0 (.ex 0) : AV)) z0))) (by kernel_rfl) ?_
 repeat' (first | exact hK | refine mI rfl ?_ | refine must_mk ?_ ?_)
noncomputable def ec_new40 : SpecE := tstE (fun us M => andQ (Nat.beq (nEl M 0) 4) (Nat.beq (argZ us 1 0) 0)) (esOf I_new40 out_new40) ec_new32
theorem nc_new40 : NatE Try.prog 7 0 ec_new40 := tstE_ok (natE_pn (f := 7) (k := 0) (cfT_ok nat0_ok) ft_new40_ok (by rfl) (by rfl) vf_new40) nc_new32
noncomputable def nat_new40 := natC nat_new32 0 ec_new40 7 [(0, 15), (1, 15), (2, 8)]
theorem nat_new40_ok : NatsOk Try.prog nat_new40 := natC_ok nc_new40 nat_new32_ok
def ft_new41 : XF := ft_new21
theorem ft_new41_ok : chkF Try.prog 7 ft_new41 = true := ft_new21_ok
abbrev A_new41 := Unit
noncomputable def I_new41 (p : A_new41) : IE := ([.agg [.int 1 (.ofNat 0), .int 3 (.ofNat 1), .sl 0 0 4 (.rest 0)], .agg [.int 1 (.ofNat 1), .int 2 (.ofNat 1)], .nilS], (.node .leaf (some (.blk true 31 2 [[.int 1 (.ofNat 0), .int 2 (.ofNat 1)], [.int 1 (.ofNat 1), .int 2 (.ofNat 1)], [.int 1 (.ofNat 2), .int 2 (.ofNat 1)], [.int 1 (.ofNat 3), .int 2 (.ofNat 1)]])) .leaf), 1)
noncomputable def out_new41 (p : A_new41) (K : KE) : Bool := K (.ptr 0 0) (Rm4n ([] : List Int) 0 (false = true) 0 0 0 0 1) 4
theorem vf_new41 (p : A_new41) (K : KE) (hK : out_new41 p K = true) : (funE 0 (cfT nat0) noLp 600 ft_new41 (I_new41 p).1 (I_new41 p).2.1 (I_new41 p).2.2 K) = true := by
 refine Eq.trans (b := (let z0 : Bool := (K (.ptr 0 0) (Rm4 ([] : List Int) 0 (false = true) 0 0 0 0 1 0) 4); must (must (mP ((.sl 2 0 0 (.ex 0) : AV) = (.sl 2 0 0 (.ex 0) : AV)) z0) (mP ((.sl 2 0 0 (.ex 0) : AV) = (.sl 2 0 0 (.ex 0) : AV)) z0)) (mP ((.sl 2 0 0 (.ex 0) : AV) = (.sl 2 0 0 (.ex 0) : AV)) z0))) (by kernel_rfl) ?_
 repeat' (first | exact hK | refine mI rfl ?_ | refine must_mk ?_ ?_)
noncomputable def ec_new41 : SpecE := tstE (fun us M => andQ (Nat.beq (nEl M 0) 4) (Nat.beq (argZ us 1 0) 1)) (esOf I_new41 out_new41) ec_new40
theorem nc_new41 : NatE Try.prog 7 0 ec_new41 := tstE_ok (natE_pn (f := 7) (k := 0) (cfT_ok nat0_ok) ft_new41_ok (by rfl) (by rfl) vf_new41) nc_new40
noncomputable def nat_new41 := natC nat_new40 0 ec_new41 7 [(0, 15), (1, 15), (2, 8)]
theorem nat_new41_ok : NatsOk Try.prog nat_new41 := natC_ok nc_new41 nat_new40_ok
def ft_new42 : XF := ft_new21
theorem ft_new42_ok : chkF Try.prog 7 ft_new42 = true := ft_new21_ok
abbrev A_new42 := Unit
noncomputable def I_new42 (p : A_new42) : IE := ([.agg [.int 1 (.ofNat 0), .int 3 (.ofNat 1), .sl 0 0 4 (.rest 0)], .agg [.int 1 (.ofNat 2), .int 2 (.ofNat 1)], .nilS], (.node .leaf (some (.blk true 31 2 [[.int 1 (.ofNat 0), .int 2 (.ofNat 1)], [.int 1 (.ofNat 1), .int 2 (.ofNat 1)], [.int 1 (.ofNat 2), .int 2 (.ofNat 1)], [.int 1 (.ofNat 3), .int 2 (.ofNat 1)]])) .leaf), 1)
noncomputable def out_new42 (p : A_new42) (K : KE) : Bool := K (.ptr 0 0) (Rm4n ([] : List Int) 0 (false = true) 0 0 0 0 2) 4
theorem vf_new42 (p : A_new42) (K : KE) (hK : out_new42 p K = true) : (funE 0 (cfT nat0) noLp 600 ft_new42 (I_new42 p).1 (I_new42 p).2.1 (I_new42 p).2.2 K) = true := by
 refine Eq.trans (b := (let z0 : Bool := (K (.ptr 0 0) (Rm4 ([] : List Int) 0 (false = true) 0 0 0 0 2 0) 4); must (must (mP ((.sl 2 0 0 (.ex 0) : AV) = (.sl 2 0 0 (.ex 0) : AV)) z0) (mP ((.sl 2 0 0 (.ex 0) : AV) = (.sl 2 0 0 (.ex 0) : AV)) z0)) (mP ((.sl 2 0 0 (.ex 0) : AV) = (.sl 2 0 0 (.ex 0) : AV)) z0))) (by kernel_rfl) ?_
 repeat' (first | exact hK | refine mI rfl ?_ | refine must_mk ?_ ?_)
noncomputable def ec_new42 : SpecE := tstE (fun us M => andQ (Nat.beq (nEl M 0) 4) (Nat.beq (argZ us 1 0) 2)) (esOf I_new42 out_new42) ec_new41
theorem nc_new42 : NatE Try.prog 7 0 ec_new42 := tstE_ok (natE_pn (f := 7) (k := 0) (cfT_ok nat0_ok) ft_new42_ok (by rfl) (by rfl) vf_new42) nc_new41
noncomputable def nat_new42 := natC nat_new41 0 ec_new42 7 [(0, 15), (1, 15), (2, 8)]
theorem nat_new42_ok : NatsOk Try.prog nat_new42 := natC_ok nc_new42 nat_new41_ok
def ft_new43 : XF := ft_new21
theorem ft_new43_ok : chkF Try.prog 7 ft_new43 = true := ft_new21_ok
abbrev A_new43 := Unit
noncomputable def I_new43 (p : A_new43) : IE := ([.agg [.int 1 (.ofNat 0), .int 3 (.ofNat 1), .sl 0 0 4 (.rest 0)], .agg [.int 1 (.ofNat 3), .int 2 (.ofNat 1)], .nilS], (.node .leaf (some (.blk true 31 2 [[.int 1 (.ofNat 0), .int 2 (.ofNat 1)], [.int 1 (.ofNat 1), .int 2 (.ofNat 1)], [.int 1 (.ofNat 2), .int 2 (.ofNat 1)], [.int 1 (.ofNat 3), .int 2 (.ofNat 1)]])) .leaf), 1)
noncomputable def out_new43 (p : A_new43) (K : KE) : Bool := K (.ptr 0 0) (Rm4n ([] : List Int) 0 (false = true) 0 0 0 0 3) 4
theorem vf_new43 (p : A_new43) (K : KE) (hK : out_new43 p K = true) : (funE 0 (cfT nat0) noLp 600 ft_new43 (I_new43 p).1 (I_new43 p).2.1 (I_new43 p).2.2 K) = true := by
 refine Eq.trans (b := (let z0 : Bool := (K (.ptr 0 0) (Rm4 ([] : List Int) 0 (false = true) 0 0 0 0 3 0) 4); must (must (mP ((.sl 2 0 0 (.ex 0) : AV) = (.sl 2 0 0 (.ex 0) : AV)) z0) (mP ((.sl 2 0 0 (.ex 0) : AV) = (.sl 2 0 0 (.ex 0) : AV)) z0)) (mP ((.sl 2 0 0 (.ex 0) : AV) = (.sl 2 0 0 (.ex 0) : AV)) z0))) (by kernel_rfl) ?_
 repeat' (first | exact hK | refine mI rfl ?_ | refine must_mk ?_ ?_)
noncomputable def ec_new43 : SpecE := tstE (fun us M => andQ (Nat.beq (nEl M 0) 4) (Nat.beq (argZ us 1 0) 3)) (esOf I_new43 out_new43) ec_new42
theorem nc_new43 : NatE Try.prog 7 0 ec_new43 := tstE_ok (natE_pn (f := 7) (k := 0) (cfT_ok nat0_ok) ft_new43_ok (by rfl) (by rfl) vf_new43) nc_new42
noncomputable def nat_new43 := natC nat_new42 0 ec_new43 7 [(0, 15), (1, 15), (2, 8)]
theorem nat_new43_ok : NatsOk Try.prog nat_new43 := natC_ok nc_new43 nat_new42_ok
def ft_new50 : XF := ft_new10
theorem ft_new50_ok : chkF Try.prog 7 ft_new50 = true := ft_new10_ok
abbrev A_new50 := Unit
noncomputable def I_new50 (p : A_new50) : IE := ([.agg [.int 1 (.ofNat 0), .int 3 (.ofNat 1), .sl 0 0 5 (.rest 0)], .agg [.int 1 (.ofNat 0), .int 2 (.ofNat 1)], .nilS], (.node .leaf (some (.blk true 31 2 [[.int 1 (.ofNat 0), .int 2 (.ofNat 1)], [.int 1 (.ofNat 1), .int 2 (.ofNat 1)], [.int 1 (.ofNat 2), .int 2 (.ofNat 1)], [.int 1 (.ofNat 3), .int 2 (.ofNat 1)], [.int 1 (.ofNat 4), .int 2 (.ofNat 1)]])) .leaf), 1)
noncomputable def out_new50 (p : A_new50) (K : KE) : Bool := K (.ptr 0 0) (Ro5n ([] : List Int) 0 (false = true) 0 0 0 0 0) 4
theorem vf_new50 (p : A_new50) (K : KE) (hK : out_new50 p K = true) : (funE 0 (cfT nat0) noLp 600 ft_new50 (I_new50 p).1 (I_new50 p).2.1 (I_new50 p).2.2 K) = true := by
 refine Eq.trans (b := (let z0 : Bool := (K (.ptr 0 0) (Ro5 ([] : List Int) 0 (false = true) 0 0 0 0 0 0) 4); must (must (mP ((.sl 2 0 0 (.ex 0) : AV) = (.sl 2 0 0 (.ex 0) : AV)) z0) (mP ((.sl 2 0 0 (.ex 0) : AV) = (.sl 2 0 0 (.ex 0) : AV)) z0)) (mP ((.sl 2 0 0 (.ex 0) : AV) = (.sl 2 0 0 (.ex 0) : AV)) z0))) (by kernel_rfl) ?_
 repeat' (first | exact hK | refine mI rfl ?_ | refine must_mk ?_ ?_)
noncomputable def ec_new50 : SpecE := tstE (fun us M => andQ (Nat.beq (nEl M 0) 5) (Nat.beq (argZ us 1 0) 0)) (esOf I_new50 out_new50) ec_new43
theorem nc_new50 : NatE Try.prog 7 0 ec_new50 := tstE_ok (natE_pn (f := 7) (k := 0) (cfT_ok nat0_ok) ft_new50_ok (by rfl) (by rfl) vf_new50) nc_new43
noncomputable def nat_new50 := natC nat_new43 0 ec_new50 7 [(0, 15), (1, 15), (2, 8)]
theorem nat_new50_ok : NatsOk Try.prog nat_new50 := natC_ok nc_new50 nat_new43_ok
def ft_new51 : XF := ft_new21
theorem ft_new51_ok : chkF Try.prog 7 ft_new51 = true := ft_new21_ok
abbrev A_new51 := Unit
noncomputable def I_new51 (p : A_new51) : IE := ([.agg [.int 1 (.ofNat 0), .int 3 (.ofNat 1), .sl 0 0 5 (.rest 0)], .agg [.int 1 (.ofNat 1), .int 2 (.ofNat 1)], .nilS], (.node .leaf (some (.blk true 31 2 [[.int 1 (.ofNat 0), .int 2 (.ofNat 1)], [.int 1 (.ofNat 1), .int 2 (.ofNat 1)], [.int 1 (.ofNat 2), .int 2 (.ofNat 1)], [.int 1 (.ofNat 3), .int 2 (.ofNat 1)], [.int 1 (.ofNat 4), .int 2 (.ofNat 1)]])) .leaf), 1)
noncomputable def out_new51 (p : A_new51) (K : KE) : Bool := K (.ptr 0 0) (Rm5n ([] : List Int) 0 (false = true) 0 0 0 0 0 1) 4
theorem vf_new51 (p : A_new51) (K : KE) (hK : out_new51 p K = true) : (funE 0 (cfT nat0) noLp 600 ft_new51 (I_new51 p).1 (I_new51 p).2.1 (I_new51 p).2.2 K) = true := by
 refine Eq.trans (b := (let z0 : Bool := (K (.ptr 0 0) (Rm5 ([] : List Int) 0 (false = true) 0 0 0 0 0 1 0) 4); must (must (mP ((.sl 2 0 0 (.ex 0) : AV) = (.sl 2 0 0 (.ex 0) : AV)) z0) (mP ((.sl 2 0 0 (.ex 0) : AV) = (.sl 2 0 0 (.ex 0) : AV)) z0)) (mP ((.sl 2 0 0 (.ex 0) : AV) = (.sl 2 0 0 (.ex 0) : AV)) z0))) (by kernel_rfl) ?_
 repeat' (first | exact hK | refine mI rfl ?_ | refine must_mk ?_ ?_)
noncomputable def ec_new51 : SpecE := tstE (fun us M => andQ (Nat.beq (nEl M 0) 5) (Nat.beq (argZ us 1 0) 1)) (esOf I_new51 out_new51) ec_new50
theorem nc_new51 : NatE Try.prog 7 0 ec_new51 := tstE_ok (natE_pn (f := 7) (k := 0) (cfT_ok nat0_ok) ft_new51_ok (by rfl) (by rfl) vf_new51) nc_new50
noncomputable def nat_new51 := natC nat_new50 0 ec_new51 7 [(0, 15), (1, 15), (2, 8)]
theorem nat_new51_ok : NatsOk Try.prog nat_new51 := natC_ok nc_new51 nat_new50_ok
def ft_new52 : XF := ft_new21
theorem ft_new52_ok : chkF Try.prog 7 ft_new52 = true := ft_new21_ok
abbrev A_new52 := Unit
noncomputable def I_new52 (p : A_new52) : IE := ([.agg [.int 1 (.ofNat 0), .int 3 (.ofNat 1), .sl 0 0 5 (.rest 0)], .agg [.int 1 (.ofNat 2), .int 2 (.ofNat 1)], .nilS], (.node .leaf (some (.blk true 31 2 [[.int 1 (.ofNat 0), .int 2 (.ofNat 1)], [.int 1 (.ofNat 1), .int 2 (.ofNat 1)], [.int 1 (.ofNat 2), .int 2 (.ofNat 1)], [.int 1 (.ofNat 3), .int 2 (.ofNat 1)], [.int 1 (.ofNat 4), .int 2 (.ofNat 1)]])) .leaf), 1)
noncomputable def out_new52 (p : A_new52) (K : KE) : Bool := K (.ptr 0 0) (Rm5n ([] : List Int) 0 (false = true) 0 0 0 0 0 2) 4
theorem vf_new52 (p : A_new52) (K : KE) (hK : out_new52 p K = true) : (funE 0 (cfT nat0) noLp 600 ft_new52 (I_new52 p).1 (I_new52 p).2.1 (I_new52 p).2.2 K) = true := by
 refine Eq.trans (b := (let z0 : Bool := (K (.ptr 0 0) (Rm5 ([] : List Int) 0 (false = true) 0 0 0 0 0 2 0) 4); must (must (mP ((.sl 2 0 0 (.ex 0) : AV) = (.sl 2 0 0 (.ex 0) : AV)) z0) (mP ((.sl 2 0 0 (.ex 0) : AV) = (.sl 2 0 0 (.ex 0) : AV)) z0)) (mP ((.sl 2 0 0 (.ex 0) : AV) = (.sl 2 0 0 (.ex 0) : AV)) z0))) (by kernel_rfl) ?_
 repeat' (first | exact hK | refine mI rfl ?_ | refine must_mk ?_ ?_)
noncomputable def ec_new52 : SpecE := tstE (fun us M => andQ (Nat.beq (nEl M 0) 5) (Nat.beq (argZ us 1 0) 2)) (esOf I_new52 out_new52) ec_new51
theorem nc_new52 : NatE Try.prog 7 0 ec_new52 := tstE_ok (natE_pn (f := 7) (k := 0) (cfT_ok nat0_ok) ft_new52_ok (by rfl) (by rfl) vf_new52) nc_new51
noncomputable def nat_new52 := natC nat_new51 0 ec_new52 7 [(0, 15), (1, 15), (2, 8)]
theorem nat_new52_ok : NatsOk Try.prog nat_new52 := natC_ok nc_new52 nat_new51_ok
def ft_new53 : XF := ft_new21
theorem ft_new53_ok : chkF Try.prog 7 ft_new53 = true := ft_new21_ok
abbrev A_new53 := Unit
noncomputable def I_new53 (p : A_new53) : IE := ([.agg [.int 1 (.ofNat 0), .int 3 (.ofNat 1), .sl 0 0 5 (.rest 0)], .agg [.int 1 (.ofNat 3), .int 2 (.ofNat 1)], .nilS], (.node .leaf (some (.blk true 31 2 [[.int 1 (.ofNat 0), .int 2 (.ofNat 1)], [.int 1 (.ofNat 1), .int 2 (.ofNat 1)], [.int 1 (.ofNat 2), .int 2 (.ofNat 1)], [.int 1 (.ofNat 3), .int 2 (.ofNat 1)], [.int 1 (.ofNat 4), .int 2 (.ofNat 1)]])) .leaf), 1)
noncomputable def out_new53 (p : A_new53) (K : KE) : Bool := K (.ptr 0 0) (Rm5n ([] : List Int) 0 (false = true) 0 0 0 0 0 3) 4
theorem vf_new53 (p : A_new53) (K : KE) (hK : out_new53 p K = true) : (funE 0 (cfT nat0) noLp 600 ft_new53 (I_new53 p).1 (I_new53 p).2.1 (I_new53 p).2.2 K) = true := by
 refine Eq.trans (b := (let z0 : Bool := (K (.ptr 0 0) (Rm5 ([] : List Int) 0 (false = true) 0 0 0 0 0 3 0) 4); must (must (mP ((.sl 2 0 0 (.ex 0) : AV) = (.sl 2 0 0 (.ex 0) : AV)) z0) (mP ((.sl 2 0 0 (.ex 0) : AV) = (.sl 2 0 0 (.ex 0) : AV)) z0)) (mP ((.sl 2 0 0 (.ex 0) : AV) = (.sl 2 0 0 (.ex 0) : AV)) z0))) (by kernel_rfl) ?_
 repeat' (first | exact hK | refine mI rfl ?_ | refine must_mk ?_ ?_)
noncomputable def ec_new53 : SpecE := tstE (fun us M => andQ (Nat.beq (nEl M 0) 5) (Nat.beq (argZ us 1 0) 3)) (esOf I_new53 out_new53) ec_new52
theorem nc_new53 : NatE Try.prog 7 0 ec_new53 := tstE_ok (natE_pn (f := 7) (k := 0) (cfT_ok nat0_ok) ft_new53_ok (by rfl) (by rfl) vf_new53) nc_new52
noncomputable def nat_new53 := natC nat_new52 0 ec_new53 7 [(0, 15), (1, 15), (2, 8)]
theorem nat_new53_ok : NatsOk Try.prog nat_new53 := natC_ok nc_new53 nat_new52_ok
def ft_new54 : XF := ft_new21
theorem ft_new54_ok : chkF Try.prog 7 ft_new54 = true := ft_new21_ok
abbrev A_new54 := Unit
noncomputable def I_new54 (p : A_new54) : IE := ([.agg [.int 1 (.ofNat 0), .int 3 (.ofNat 1), .sl 0 0 5 (.rest 0)], .agg [.int 1 (.ofNat 4), .int 2 (.ofNat 1)], .nilS], (.node .leaf (some (.blk true 31 2 [[.int 1 (.ofNat 0), .int 2 (.ofNat 1)], [.int 1 (.ofNat 1), .int 2 (.ofNat 1)], [.int 1 (.ofNat 2), .int 2 (.ofNat 1)], [.int 1 (.ofNat 3), .int 2 (.ofNat 1)], [.int 1 (.ofNat 4), .int 2 (.ofNat 1)]])) .leaf), 1)
noncomputable def out_new54 (p : A_new54) (K : KE) : Bool := K (.ptr 0 0) (Rm5n ([] : List Int) 0 (false = true) 0 0 0 0 0 4) 4
theorem vf_new54 (p : A_new54) (K : KE) (hK : out_new54 p K = true) : (funE 0 (cfT nat0) noLp 600 ft_new54 (I_new54 p).1 (I_new54 p).2.1 (I_new54 p).2.2 K) = true := by
 refine Eq.trans (b := (let z0 : Bool := (K (.ptr 0 0) (Rm5 ([] : List Int) 0 (false = true) 0 0 0 0 0 4 0) 4); must (must (mP ((.sl 2 0 0 (.ex 0) : AV) = (.sl 2 0 0 (.ex 0) : AV)) z0) (mP ((.sl 2 0 0 (.ex 0) : AV) = (.sl 2 0 0 (.ex 0) : AV)) z0)) (mP ((.sl 2 0 0 (.ex 0) : AV) = (.sl 2 0 0 (.ex 0) : AV)) z0))) (by kernel_rfl) ?_
 repeat' (first | exact hK | refine mI rfl ?_ | refine must_mk ?_ ?_)
noncomputable def ec_new54 : SpecE := tstE (fun us M => andQ (Nat.beq (nEl M 0) 5) (Nat.beq (argZ us 1 0) 4)) (esOf I_new54 out_new54) ec_new53
theorem nc_new54 : NatE Try.prog 7 0 ec_new54 := tstE_ok (natE_pn (f := 7) (k := 0) (cfT_ok nat0_ok) ft_new54_ok (by rfl) (by rfl) vf_new54) nc_new53
noncomputable def nat_new54 := natC nat_new53 0 ec_new54 7 [(0, 15), (1, 15), (2, 8)]
theorem nat_new54_ok : NatsOk Try.prog nat_new54 := natC_ok nc_new54 nat_new53_ok
def ft_made : XF := .mk 32 (.one 2) (.aft (.seq (g_ 1 [p_ 0 2 (.mv (.c .nilP))]) (.seq (.aft (g_ 6 [p_ 0 5 (m_ 0), p_ 1 6 (.bin 0 4 (.t 5) (i_ 5)), p_ 2 7 (.bin 0 0 (.t 6) (i_ 5)), p_ 3 8 (.bin 0 4 (.t 7) (i_ 5)), p_ 4 9 (.bin 0 0 (i_ 1) (.t 8)), p_ 5 0 (m_ 9)]) [(0, [.fix 0 6])]) (.seq (g_ 3 [p_ 0 10 (.bld [.nilS, .nilS, .int 0 (.ofNat 0)] [] []), e_ 1 11 (.box 81 (.t 10)), p_ 2 3 (m_ 11)]) (.seq (.seq (g_ 1 [p_ 0 4 (.mv (i_ 0))]) (.block 2 (.loop [0, 2, 3, 4, 12, 13, 14, 15, 16, 17, 18, 19, 20, 21, 22, 23, 24, 25, 26, 27, 28, 29, 30, 31] (.seq (.seq (g_ 3 [p_ 0 12 (m_ 4), p_ 1 13 (m_ 0), p_ 2 14 (.bin 3 0 (.t 12) (.t 13))]) (.cond (.t 14) .skip (.exit 2))) (.seq (.block 3 (h_ 15 [p_ 0 17 (m_ 3), p_ 1 18 (m_ 3), p_ 2 19 (n_ 18), p_ 3 20 (f_ 0 19), r_ 4 21 (l_ 20), p_ 5 22 (m_ 0), p_ 7 24 (m_ 4), c_ 6 23 8 [.t 22], a_ 4 21 (l_ 20), c_ 8 25 9 [.t 24], a_ 4 21 (l_ 20), c_ 9 26 7 [.t 23, .t 25, .c .nilS], a_ 4 21 (l_ 20), e_ 10 27 (.bsl 22 1 1 [.nilP] [(0, 1)] [.t 26]), a_ 4 21 (l_ 20), e_ 11 28 (.app 22 1 8 (.t 21) (.t 27)), p_ 12 29 (n_ 17), p_ 13 30 (f_ 0 29), e0_ 14 (.st 1 (.t 30) (.t 28))])) (g_ 3 [p_ 0 15 (m_ 4), p_ 1 16 (.bin 0 0 (.t 15) (i_ 1)), p_ 2 4 (m_ 16)])))))) (.seq (g_ 2 [p_ 0 31 (m_ 3), p_ 1 2 (m_ 31)]) .ret))))) [(1, [.can 0 [2], .cell 0 0 1 100 4 Told encT, .upc 0 0 2, .can 0 [2]])])
theorem ft_made_ok : chkF Try.prog 27 ft_made = true := by kernel_rfl
structure A_made where
 n : Int
structure R_made where
 f : F1
structure R_made1 where
 f : F2
structure R_made2 where
 f : F3
structure R_made3 where
 f : F4
structure R_made4 where
 f : F5
def po_made (p : A_made) (r : R_made) : Prop := FI1 r.f ∧ r.f.cnt = 0
def po_made1 (p : A_made) (r : R_made1) : Prop := FI2 r.f ∧ r.f.cnt = 0
def po_made2 (p : A_made) (r : R_made2) : Prop := FI3 r.f ∧ r.f.cnt = 0
def po_made3 (p : A_made) (r : R_made3) : Prop := FI4 r.f ∧ r.f.cnt = 0
def po_made4 (p : A_made) (r : R_made4) : Prop := FI5 r.f ∧ r.f.cnt = 0
noncomputable def I_made (p : A_made) : IE := ([.sy (.int 0 p.n)], .leaf, 0)
noncomputable def out_made (p : A_made) (K : KE) : Bool := must (allB fun r : R_made => iP (po_made p r) (K (.ptr 0 0) (Fd1n r.f) 7) true) (must (allB fun r : R_made1 => iP (po_made1 p r) (K (.ptr 0 0) (Fd2n r.f) 11) true) (must (allB fun r : R_made2 => iP (po_made2 p r) (K (.ptr 0 0) (Fd3n r.f) 15) true) (must (allB fun r : R_made3 => iP (po_made3 p r) (K (.ptr 0 0) (Fd4n r.f) 19) true) (allB fun r : R_made4 => iP (po_made4 p r) (K (.ptr 0 0) (Fd5n r.f) 23) true))))
theorem vf_made (p : A_made) (K : KE) (hK : out_made p K = true) : (funE 0 (cfT nat_new54) noLp 600 ft_made (I_made p).1 (I_made p).2.1 (I_made p).2.2 K) = true := by
 refine Eq.trans (b := (let y0 : Int := (Int.tmod ((Int.tmod p.n (5 : Int)) + (5 : Int)) (5 : Int)); mP ((5 : Int) ≠ 0) (mP (InR 0 ((Int.tmod p.n (5 : Int)) + (5 : Int))) (mP ((5 : Int) ≠ 0) (mP (InR 0 ((1 : Int) + y0)) (iP (((1 : Int) + y0) = 0) (mP ((.nilS : AV) = (.nilS : AV)) (K (.ptr 0 0) (.node (.node .leaf (some (.prow 100 4 Told ([] : List Told) encT)) .leaf) (some (.blk false 81 3 [[.nilS, .sy (.prow 1 0), .sy (.int 0 0)]])) .leaf) 2)) (iP (((1 : Int) + y0) = 1) (exB fun p15 : A_new10 => mP (([.agg [.int 1 (.ofNat 0), .int 3 (.ofNat 1), .sl 0 0 1 (.rest 0)], .agg [.int 1 (.ofNat 0), .int 2 (.ofNat 1)], .nilS], (.node .leaf (some (.blk true 31 2 [[.int 1 (.ofNat 0), .int 2 (.ofNat 1)]])) .leaf), 1) = I_new10 p15) (mP ((.nilS : AV) = (.nilS : AV)) (K (.ptr 0 0) (Fd1 ⟨⟨([] : List Int), (0 : Int), false = true⟩, (0 : Int), ([] : List Told), (0 : Int)⟩ 0 (([] : List Int).length)) 7))) (iP (((1 : Int) + y0) = 2) (exB fun p13 : A_new20 => mP (([.agg [.int 1 (.ofNat 0), .int 3 (.ofNat 1), .sl 0 0 2 (.rest 0)], .agg [.int 1 (.ofNat 0), .int 2 (.ofNat 1)], .nilS], (.node .leaf (some (.blk true 31 2 [[.int 1 (.ofNat 0), .int 2 (.ofNat 1)], [.int 1 (.ofNat 1), .int 2 (.ofNat 1)]])) .leaf), 1) = I_new20 p13) (exB fun p14 : A_new21 => mP (([.agg [.int 1 (.ofNat 0), .int 3 (.ofNat 1), .sl 0 0 2 (.rest 0)], .agg [.int 1 (.ofNat 1), .int 2 (.ofNat 1)], .nilS], (.node .leaf (some (.blk true 31 2 [[.int 1 (.ofNat 0), .int 2 (.ofNat 1)], [.int 1 (.ofNat 1), .int 2 (.ofNat 1)]])) .leaf), 1) = I_new21 p14) (mP ((.nilS : AV) = (.nilS : AV)) (K (.ptr 0 0) (Fd2 ⟨⟨([] : List Int), (0 : Int), false = true⟩, ⟨([] : List Int), (0 : Int), false = true⟩, (0 : Int), (0 : Int), ([] : List Told), (0 : Int)⟩ 0 (([] : List Int).length) (([] : List Int).length)) 11)))) (iP (((1 : Int) + y0) = 3) (exB fun p10 : A_new30 => mP (([.agg [.int 1 (.ofNat 0), .int 3 (.ofNat 1), .sl 0 0 3 (.rest 0)], .agg [.int 1 (.ofNat 0), .int 2 (.ofNat 1)], .nilS], (.node .leaf (some (.blk true 31 2 [[.int 1 (.ofNat 0), .int 2 (.ofNat 1)], [.int 1 (.ofNat 1), .int 2 (.ofNat 1)], [.int 1 (.ofNat 2), .int 2 (.ofNat 1)]])) .leaf), 1) = I_new30 p10) (exB fun p11 : A_new31 => mP (([.agg [.int 1 (.ofNat 0), .int 3 (.ofNat 1), .sl 0 0 3 (.rest 0)], .agg [.int 1 (.ofNat 1), .int 2 (.ofNat 1)], .nilS], (.node .leaf (some (.blk true 31 2 [[.int 1 (.ofNat 0), .int 2 (.ofNat 1)], [.int 1 (.ofNat 1), .int 2 (.ofNat 1)], [.int 1 (.ofNat 2), .int 2 (.ofNat 1)]])) .leaf), 1) = I_new31 p11) (exB fun p12 : A_new32 => mP (([.agg [.int 1 (.ofNat 0), .int 3 (.ofNat 1), .sl 0 0 3 (.rest 0)], .agg [.int 1 (.ofNat 2), .int 2 (.ofNat 1)], .nilS], (.node .leaf (some (.blk true 31 2 [[.int 1 (.ofNat 0), .int 2 (.ofNat 1)], [.int 1 (.ofNat 1), .int 2 (.ofNat 1)], [.int 1 (.ofNat 2), .int 2 (.ofNat 1)]])) .leaf), 1) = I_new32 p12) (mP ((.nilS : AV) = (.nilS : AV)) (K (.ptr 0 0) (Fd3 ⟨⟨([] : List Int), (0 : Int), false = true⟩, ⟨([] : List Int), (0 : Int), false = true⟩, ⟨([] : List Int), (0 : Int), false = true⟩, (0 : Int), (0 : Int), (0 : Int), ([] : List Told), (0 : Int)⟩ 0 (([] : List Int).length) (([] : List Int).length) (([] : List Int).length)) 15))))) (iP (((1 : Int) + y0) = 4) (exB fun p6 : A_new40 => mP (([.agg [.int 1 (.ofNat 0), .int 3 (.ofNat 1), .sl 0 0 4 (.rest 0)], .agg [.int 1 (.ofNat 0), .int 2 (.ofNat 1)], .nilS], (.node .leaf (some (.blk true 31 2 [[.int 1 (.ofNat 0), .int 2 (.ofNat 1)], [.int 1 (.ofNat 1), .int 2 (.ofNat 1)], [.int 1 (.ofNat 2), .int 2 (.ofNat 1)], [.int 1 (.ofNat 3), .int 2 (.ofNat 1)]])) .leaf), 1) = I_new40 p6) (exB fun p7 : A_new41 => mP (([.agg [.int 1 (.ofNat 0), .int 3 (.ofNat 1), .sl 0 0 4 (.rest 0)], .agg [.int 1 (.ofNat 1), .int 2 (.ofNat 1)], .nilS], (.node .leaf (some (.blk true 31 2 [[.int 1 (.ofNat 0), .int 2 (.ofNat 1)], [.int 1 (.ofNat 1), .int 2 (.ofNat 1)], [.int 1 (.ofNat 2), .int 2 (.ofNat 1)], [.int 1 (.ofNat 3), .int 2 (.ofNat 1)]])) .leaf), 1) = I_new41 p7) (exB fun p8 : A_new42 => mP (([.agg [.int 1 (.ofNat 0), .int 3 (.ofNat 1), .sl 0 0 4 (.rest 0)], .agg [.int 1 (.ofNat 2), .int 2 (.ofNat 1)], .nilS], (.node .leaf (some (.blk true 31 2 [[.int 1 (.ofNat 0), .int 2 (.ofNat 1)], [.int 1 (.ofNat 1), .int 2 (.ofNat 1)], [.int 1 (.ofNat 2), .int 2 (.ofNat 1)], [.int 1 (.ofNat 3), .int 2 (.ofNat 1)]])) .leaf), 1) = I_new42 p8) (exB fun p9 : A_new43 => mP (([.agg [.int 1 (.ofNat 0), .int 3 (.ofNat 1), .sl 0 0 4 (.rest 0)], .agg [.int 1 (.ofNat 3), .int 2 (.ofNat 1)], .nilS], (.node .leaf (some (.blk true 31 2 [[.int 1 (.ofNat 0), .int 2 (.ofNat 1)], [.int 1 (.ofNat 1), .int 2 (.ofNat 1)], [.int 1 (.ofNat 2), .int 2 (.ofNat 1)], [.int 1 (.ofNat 3), .int 2 (.ofNat 1)]])) .leaf), 1) = I_new43 p9) (mP ((.nilS : AV) = (.nilS : AV)) (K (.ptr 0 0) (Fd4 ⟨⟨([] : List Int), (0 : Int), false = true⟩, ⟨([] : List Int), (0 : Int), false = true⟩, ⟨([] : List Int), (0 : Int), false = true⟩, ⟨([] : List Int), (0 : Int), false = true⟩, (0 : Int), (0 : Int), (0 : Int), (0 : Int), ([] : List Told), (0 : Int)⟩ 0 (([] : List Int).length) (([] : List Int).length) (([] : List Int).length) (([] : List Int).length)) 19)))))) (iP (((1 : Int) + y0) = 5) (exB fun p1 : A_new50 => mP (([.agg [.int 1 (.ofNat 0), .int 3 (.ofNat 1), .sl 0 0 5 (.rest 0)], .agg [.int 1 (.ofNat 0), .int 2 (.ofNat 1)], .nilS], (.node .leaf (some (.blk true 31 2 [[.int 1 (.ofNat 0), .int 2 (.ofNat 1)], [.int 1 (.ofNat 1), .int 2 (.ofNat 1)], [.int 1 (.ofNat 2), .int 2 (.ofNat 1)], [.int 1 (.ofNat 3), .int 2 (.ofNat 1)], [.int 1 (.ofNat 4), .int 2 (.ofNat 1)]])) .leaf), 1) = I_new50 p1) (exB fun p2 : A_new51 => mP (([.agg [.int 1 (.ofNat 0), .int 3 (.ofNat 1), .sl 0 0 5 (.rest 0)], .agg [.int 1 (.ofNat 1), .int 2 (.ofNat 1)], .nilS], (.node .leaf (some (.blk true 31 2 [[.int 1 (.ofNat 0), .int 2 (.ofNat 1)], [.int 1 (.ofNat 1), .int 2 (.ofNat 1)], [.int 1 (.ofNat 2), .int 2 (.ofNat 1)], [.int 1 (.ofNat 3), .int 2 (.ofNat 1)], [.int 1 (.ofNat 4), .int 2 (.ofNat 1)]])) .leaf), 1) = I_new51 p2) (exB fun p3 : A_new52 => mP (([.agg [.int 1 (.ofNat 0), .int 3 (.ofNat 1), .sl 0 0 5 (.rest 0)], .agg [.int 1 (.ofNat 2), .int 2 (.ofNat 1)], .nilS], (.node .leaf (some (.blk true 31 2 [[.int 1 (.ofNat 0), .int 2 (.ofNat 1)], [.int 1 (.ofNat 1), .int 2 (.ofNat 1)], [.int 1 (.ofNat 2), .int 2 (.ofNat 1)], [.int 1 (.ofNat 3), .int 2 (.ofNat 1)], [.int 1 (.ofNat 4), .int 2 (.ofNat 1)]])) .leaf), 1) = I_new52 p3) (exB fun p4 : A_new53 => mP (([.agg [.int 1 (.ofNat 0), .int 3 (.ofNat 1), .sl 0 0 5 (.rest 0)], .agg [.int 1 (.ofNat 3), .int 2 (.ofNat 1)], .nilS], (.node .leaf (some (.blk true 31 2 [[.int 1 (.ofNat 0), .int 2 (.ofNat 1)], [.int 1 (.ofNat 1), .int 2 (.ofNat 1)], [.int 1 (.ofNat 2), .int 2 (.ofNat 1)], [.int 1 (.ofNat 3), .int 2 (.ofNat 1)], [.int 1 (.ofNat 4), .int 2 (.ofNat 1)]])) .leaf), 1) = I_new53 p4) (exB fun p5 : A_new54 => mP (([.agg [.int 1 (.ofNat 0), .int 3 (.ofNat 1), .sl 0 0 5 (.rest 0)], .agg [.int 1 (.ofNat 4), .int 2 (.ofNat 1)], .nilS], (.node .leaf (some (.blk true 31 2 [[.int 1 (.ofNat 0), .int 2 (.ofNat 1)], [.int 1 (.ofNat 1), .int 2 (.ofNat 1)], [.int 1 (.ofNat 2), .int 2 (.ofNat 1)], [.int 1 (.ofNat 3), .int 2 (.ofNat 1)], [.int 1 (.ofNat 4), .int 2 (.ofNat 1)]])) .leaf), 1) = I_new54 p5) (mP ((.nilS : AV) = (.nilS : AV)) (K (.ptr 0 0) (Fd5 ⟨⟨([] : List Int), (0 : Int), false = true⟩, ⟨([] : List Int), (0 : Int), false = true⟩, ⟨([] : List Int), (0 : Int), false = true⟩, ⟨([] : List Int), (0 : Int), false = true⟩, ⟨([] : List Int), (0 : Int), false = true⟩, (0 : Int), (0 : Int), (0 : Int), (0 : Int), (0 : Int), ([] : List Told), (0 : Int)⟩ 0 (([] : List Int).length) (([] : List Int).length) (([] : List Int).length) (([] : List Int).length) (([] : List Int).length)) 23))))))) (mP (False) (true))))))))))))) (by kernel_rfl) ?_
 obtain ⟨hK0, hKr0⟩ := must_ok hK
 obtain ⟨hK1, hKr1⟩ := must_ok hKr0
 obtain ⟨hK2, hKr2⟩ := must_ok hKr1
 obtain ⟨hK3, hKr3⟩ := must_ok hKr2
 have hK4 := hKr3
 have t1 := tmb 5 (by decide) p.n
 have t2 := tmp 5 (by decide) (p.n.tmod 5 + 5) (by omega)
 refine mI (by decide) (mI (by simp only [InR]; omega) (mI (by decide) (mI (by simp only [InR]; omega) ?_)))
 refine iI (fun hc1 => ?_) (fun hc1 => ?_)
 refine mI (rfl) ?_
 exfalso; omega
 refine iI (fun hc2 => ?_) (fun hc2 => ?_)
 refine exB_mk ⟨⟩ ?_
 refine mI (rfl) (mI (rfl) ?_)
 exact ifB_use (show FI1 (⟨⟨([] : List Int), (0 : Int), false = true⟩, (0 : Int), ([] : List Told), (0 : Int)⟩ : F1) ∧ (0 : Int) = 0 from (by exact ⟨tr_init (by simp) (by simp) rfl, rfl⟩)) (allB_ok hK0 (⟨⟨⟨([] : List Int), (0 : Int), false = true⟩, (0 : Int), ([] : List Told), (0 : Int)⟩⟩ : R_made))
 refine iI (fun hc3 => ?_) (fun hc3 => ?_)
 refine exB_mk ⟨⟩ ?_
 refine mI (rfl) ?_
 refine exB_mk ⟨⟩ ?_
 refine mI (rfl) (mI (rfl) ?_)
 exact ifB_use (show FI2 (⟨⟨([] : List Int), (0 : Int), false = true⟩, ⟨([] : List Int), (0 : Int), false = true⟩, (0 : Int), (0 : Int), ([] : List Told), (0 : Int)⟩ : F2) ∧ (0 : Int) = 0 from (by exact ⟨tr_init (by simp) (by simp) rfl, rfl⟩)) (allB_ok hK1 (⟨⟨⟨([] : List Int), (0 : Int), false = true⟩, ⟨([] : List Int), (0 : Int), false = true⟩, (0 : Int), (0 : Int), ([] : List Told), (0 : Int)⟩⟩ : R_made1))
 refine iI (fun hc4 => ?_) (fun hc4 => ?_)
 refine exB_mk ⟨⟩ ?_
 refine mI (rfl) ?_
 refine exB_mk ⟨⟩ ?_
 refine mI (rfl) ?_
 refine exB_mk ⟨⟩ ?_
 refine mI (rfl) (mI (rfl) ?_)
 exact ifB_use (show FI3 (⟨⟨([] : List Int), (0 : Int), false = true⟩, ⟨([] : List Int), (0 : Int), false = true⟩, ⟨([] : List Int), (0 : Int), false = true⟩, (0 : Int), (0 : Int), (0 : Int), ([] : List Told), (0 : Int)⟩ : F3) ∧ (0 : Int) = 0 from (by exact ⟨tr_init (by simp) (by simp) rfl, rfl⟩)) (allB_ok hK2 (⟨⟨⟨([] : List Int), (0 : Int), false = true⟩, ⟨([] : List Int), (0 : Int), false = true⟩, ⟨([] : List Int), (0 : Int), false = true⟩, (0 : Int), (0 : Int), (0 : Int), ([] : List Told), (0 : Int)⟩⟩ : R_made2))
 refine iI (fun hc5 => ?_) (fun hc5 => ?_)
 refine exB_mk ⟨⟩ ?_
 refine mI (rfl) ?_
 refine exB_mk ⟨⟩ ?_
 refine mI (rfl) ?_
 refine exB_mk ⟨⟩ ?_
 refine mI (rfl) ?_
 refine exB_mk ⟨⟩ ?_
 refine mI (rfl) (mI (rfl) ?_)
 exact ifB_use (show FI4 (⟨⟨([] : List Int), (0 : Int), false = true⟩, ⟨([] : List Int), (0 : Int), false = true⟩, ⟨([] : List Int), (0 : Int), false = true⟩, ⟨([] : List Int), (0 : Int), false = true⟩, (0 : Int), (0 : Int), (0 : Int), (0 : Int), ([] : List Told), (0 : Int)⟩ : F4) ∧ (0 : Int) = 0 from (by exact ⟨tr_init (by simp) (by simp) rfl, rfl⟩)) (allB_ok hK3 (⟨⟨⟨([] : List Int), (0 : Int), false = true⟩, ⟨([] : List Int), (0 : Int), false = true⟩, ⟨([] : List Int), (0 : Int), false = true⟩, ⟨([] : List Int), (0 : Int), false = true⟩, (0 : Int), (0 : Int), (0 : Int), (0 : Int), ([] : List Told), (0 : Int)⟩⟩ : R_made3))
 refine iI (fun hc6 => ?_) (fun hc6 => ?_)
 refine exB_mk ⟨⟩ ?_
 refine mI (rfl) ?_
 refine exB_mk ⟨⟩ ?_
 refine mI (rfl) ?_
 refine exB_mk ⟨⟩ ?_
 refine mI (rfl) ?_
 refine exB_mk ⟨⟩ ?_
 refine mI (rfl) ?_
 refine exB_mk ⟨⟩ ?_
 refine mI (rfl) (mI (rfl) ?_)
 exact ifB_use (show FI5 (⟨⟨([] : List Int), (0 : Int), false = true⟩, ⟨([] : List Int), (0 : Int), false = true⟩, ⟨([] : List Int), (0 : Int), false = true⟩, ⟨([] : List Int), (0 : Int), false = true⟩, ⟨([] : List Int), (0 : Int), false = true⟩, (0 : Int), (0 : Int), (0 : Int), (0 : Int), (0 : Int), ([] : List Told), (0 : Int)⟩ : F5) ∧ (0 : Int) = 0 from (by exact ⟨tr_init (by simp) (by simp) rfl, rfl⟩)) (allB_ok hK4 (⟨⟨⟨([] : List Int), (0 : Int), false = true⟩, ⟨([] : List Int), (0 : Int), false = true⟩, ⟨([] : List Int), (0 : Int), false = true⟩, ⟨([] : List Int), (0 : Int), false = true⟩, ⟨([] : List Int), (0 : Int), false = true⟩, (0 : Int), (0 : Int), (0 : Int), (0 : Int), (0 : Int), ([] : List Told), (0 : Int)⟩⟩ : R_made4))
 refine mI (by omega) ?_
 rfl
noncomputable def nat_made := natC nat_new54 0 (esOf I_made out_made) 27 [(0, 20)]
theorem nat_made_ok : NatsOk Try.prog nat_made := natC_ok (natE_pn (f := 27) (k := 0) (cfT_ok nat_new54_ok) ft_made_ok (by rfl) (by rfl) vf_made) nat_new54_ok
end Go.Proofs.Try