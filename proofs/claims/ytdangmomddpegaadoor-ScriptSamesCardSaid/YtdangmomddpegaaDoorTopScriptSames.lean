/- ScriptSames: whatever two scripts come in, the call returns true, and they read as before. Condition: the tables that the card lists are as the program lays them. -/
import Derived.Test.YtdangmomddpegaaDoorM2
import Derived.KernelRfl
import Derived.Test.YtdangmomddpegaaDoorRows
import Derived.Test.YtdangmomddpegaaDoorTie
import Derived.Test.YtdangmomddpegaaDoorCards
import Derived.WalkKit
import Derived.ProofKit
import Derived.OpenShut
import Derived.Below
import Derived.LaidLaws
import Derived.RowKit
namespace Go.Proofs.Tryd
open Go Go.RowKit Go.Sy
open Go.Eng hiding allB
set_option maxRecDepth 1000000
set_option linter.unusedVariables false
set_option maxHeartbeats 4000000
def ft_own : XF := .mk 28 (.cell 2 true 9) (.aft (.seq (g_ 2 [e_ 0 1 (.box 28 (.t 0)), e_ 1 2 (.al 39 [.nilS, .int 0 (.ofNat 0), .int 0 (.ofNat 0), .int 0 (.ofNat 0), .int 0 (.ofNat 0), .int 0 (.ofNat 0), .int 0 (.ofNat 0), .int 4 (.ofNat 0), .nilS])]) (.seq (g_ 6 [p_ 0 5 (f_ 0 1), r_ 1 6 (.ld true 8 (.t 5)), c_ 2 7 22 [.t 6], p_ 3 8 (.bld [.nilS, .int 0 (.ofNat 0), .int 0 (.ofNat 0), .int 0 (.ofNat 0), .int 0 (.ofNat 0), .int 0 (.ofNat 0), .int 0 (.ofNat 0), .int 4 (.ofNat 0), .nilS] [(0, 8)] [.t 7]), e_ 4 3 (.al 39 [.nilS, .int 0 (.ofNat 0), .int 0 (.ofNat 0), .int 0 (.ofNat 0), .int 0 (.ofNat 0), .int 0 (.ofNat 0), .int 0 (.ofNat 0), .int 4 (.ofNat 0), .nilS]), e0_ 5 (.st 9 (.t 3) (.t 8))]) (.seq (.seq (g_ 1 [p_ 0 4 (.mv (i_ 0))]) (.block 2 (.pre [.can 0 [1, 2, 3, 4], .cell 2 0 8 52 9 OpR encO, .up 4, .can 0 [1, 2, 3, 4]] (.inv 0 (.aft (.seq (.seq (g_ 5 [p_ 0 9 (m_ 4), p_ 1 10 (f_ 8 1), r_ 2 11 (l_ 10), p_ 3 12 (k_ 11), p_ 4 13 (.bin 3 0 (.t 9) (.t 12))]) (.cond (.t 13) .skip (.exit 2))) (.seq (.block 3 (h_ 12 [p_ 0 16 (f_ 8 3), r_ 1 17 (l_ 16), p_ 2 18 (f_ 8 1), r_ 3 19 (l_ 18), p_ 4 20 (m_ 4), p_ 5 21 (.ixs 9 (.t 19) (.t 20)), r_ 6 22 (.ld true 9 (.t 21)), c_ 7 23 23 [.t 22], a_ 1 17 (l_ 16), e_ 8 24 (.bsl 52 9 1 [.int 0 (.ofNat 0), .int 0 (.ofNat 0), .int 0 (.ofNat 0), .int 0 (.ofNat 0), .int 0 (.ofNat 0), .int 0 (.ofNat 0), .int 3 (.ofNat 0), .int 1 (.ofNat 0), .nilS] [(0, 9)] [.t 23]), a_ 1 17 (l_ 16), e_ 9 25 (.app 52 9 80 (.t 17) (.t 24)), p_ 10 26 (f_ 8 3), e0_ 11 (.st 1 (.t 26) (.t 25))])) (g_ 3 [p_ 0 14 (m_ 4), p_ 1 15 (.bin 0 0 (.t 14) (i_ 1)), p_ 2 4 (m_ 15)]))) [(0, [.can 0 [1, 2, 3, 4]]), (2, [.can 0 [2, 3]])]))))) (.seq (g_ 2 [r_ 0 27 (.ld true 9 (.t 3)), e0_ 1 (.st 9 (.t 2) (.t 27))]) .ret)))) [(0, [.frzc 0 0 8]), (1, [.frzc 0 0 8])])
theorem ft_own_ok : chkF Tryd.prog 8 ft_own = true := by kernel_rfl
structure A_l_own where
 s : ScR
 hg : Value
 gs : List GrR
 o : List OpR
 i : Int
structure R_l_own where
 o : List OpR
def po_l_own (p : A_l_own) (r : R_l_own) : Prop := r.o.map opk = p.s.os.map opk
noncomputable def I_l_own (p : A_l_own) : IL := ((.cons 4 (.sy (.int 0 p.i)) (.cons 3 (.ptr 2 0) (.cons 2 (.ptr 1 0) (.cons 1 (.ptr 0 0) .nil)))), (.node (.node (.node .leaf (some (.prow 52 9 OpR p.o encO)) .leaf) (some (.blk false 39 9 [[.nilS, .int 0 (.ofNat 0), .int 0 (.ofNat 0), .int 0 (.ofNat 0), .int 0 (.ofNat 0), .int 0 (.ofNat 0), .int 0 (.ofNat 0), .int 4 (.ofNat 0), .nilS]])) .leaf) (some (.blk false 28 9 [[.sy (.imm p.s.hg 3 GrR p.s.gs encG), .sy (.int 0 p.s.clients), .sy (.int 0 p.s.window), .sy (.int 0 p.s.deadline), .sy (.int 0 p.s.pace), .sy (.int 0 p.s.again), .sy (.int 0 p.s.bag), .sy (.int 4 p.s.first), .sy (.imm p.s.ho 9 OpR p.s.os encO)]])) (.node .leaf (some (.blk false 39 9 [[.sy (.imm p.hg 3 GrR p.gs encG), .sy (.int 0 p.s.clients), .sy (.int 0 p.s.window), .sy (.int 0 p.s.deadline), .sy (.int 0 p.s.pace), .sy (.int 0 p.s.again), .sy (.int 0 p.s.bag), .sy (.int 4 p.s.first), .sy (.prow 3 p.o.length)]])) .leaf)), 4)
noncomputable def out_l_own (p : A_l_own) (K : KC) : Bool := allB fun r : R_l_own => iP (po_l_own p r) (K 2 (.cons 3 (.ptr 1 0) (.cons 2 (.ptr 0 0) .nil)) (.node (.node .leaf (some (.blk false 39 9 [[.sy (.imm p.hg 3 GrR p.gs encG), .sy (.int 0 p.s.clients), .sy (.int 0 p.s.window), .sy (.int 0 p.s.deadline), .sy (.int 0 p.s.pace), .sy (.int 0 p.s.again), .sy (.int 0 p.s.bag), .sy (.int 4 p.s.first), .sy (.prow 2 r.o.length)]])) .leaf) (some (.blk false 39 9 [[.nilS, .int 0 (.ofNat 0), .int 0 (.ofNat 0), .int 0 (.ofNat 0), .int 0 (.ofNat 0), .int 0 (.ofNat 0), .int 0 (.ofNat 0), .int 4 (.ofNat 0), .nilS]])) (.node .leaf (some (.prow 52 9 OpR r.o encO)) .leaf)) 3) true
def pre_l_own (p : A_l_own) : Prop := okO p.s.os ∧ 0 ≤ p.i ∧ p.i ≤ (p.s.os.length : Int) ∧ (p.o.length : Int) = p.i ∧ p.o.map opk = (p.s.os.take p.i.toNat).map opk
theorem fin_l_own {p : A_l_own} {K : KC} (hK : out_l_own p K = true) (r : R_l_own) (h : po_l_own p r) : K 2 (.cons 3 (.ptr 1 0) (.cons 2 (.ptr 0 0) .nil)) (.node (.node .leaf (some (.blk false 39 9 [[.sy (.imm p.hg 3 GrR p.gs encG), .sy (.int 0 p.s.clients), .sy (.int 0 p.s.window), .sy (.int 0 p.s.deadline), .sy (.int 0 p.s.pace), .sy (.int 0 p.s.again), .sy (.int 0 p.s.bag), .sy (.int 4 p.s.first), .sy (.prow 2 r.o.length)]])) .leaf) (some (.blk false 39 9 [[.nilS, .int 0 (.ofNat 0), .int 0 (.ofNat 0), .int 0 (.ofNat 0), .int 0 (.ofNat 0), .int 0 (.ofNat 0), .int 0 (.ofNat 0), .int 4 (.ofNat 0), .nilS]])) (.node .leaf (some (.prow 52 9 OpR r.o encO)) .leaf)) 3 = true := ifB_use h (allB_ok hK r)
noncomputable def sp_l_own (p : A_l_own) (K : KC) : Bool := must (prB (pre_l_own p)) (out_l_own p K)
noncomputable def lp_own : LpF := fun j S M nx K => (Bool.rec (false) (exB fun p : A_l_own => must (prB ((S, M, nx) = I_l_own p)) (sp_l_own p K)) (Nat.beq j 0))
def mu_l_own (p : A_l_own) : Nat := ((p.s.os.length : Int) - p.i).toNat
theorem bk_l_own {p q : A_l_own} {K : KC} {s : IL} (hm : mu_l_own q < mu_l_own p) (hp : pre_l_own q) (hK : out_l_own q K = true) (e : s = I_l_own q) : (exB fun q => mP (s = I_l_own q ∧ mu_l_own q < mu_l_own p) (sp_l_own q K)) = true := exB_mk q (mustP ⟨e, hm⟩ (mustP hp hK))
def bd_l_own : XC := (.aft (.seq (.seq (g_ 5 [p_ 0 9 (m_ 4), p_ 1 10 (f_ 8 1), r_ 2 11 (l_ 10), p_ 3 12 (k_ 11), p_ 4 13 (.bin 3 0 (.t 9) (.t 12))]) (.cond (.t 13) .skip (.exit 2))) (.seq (.block 3 (h_ 12 [p_ 0 16 (f_ 8 3), r_ 1 17 (l_ 16), p_ 2 18 (f_ 8 1), r_ 3 19 (l_ 18), p_ 4 20 (m_ 4), p_ 5 21 (.ixs 9 (.t 19) (.t 20)), r_ 6 22 (.ld true 9 (.t 21)), c_ 7 23 23 [.t 22], a_ 1 17 (l_ 16), e_ 8 24 (.bsl 52 9 1 [.int 0 (.ofNat 0), .int 0 (.ofNat 0), .int 0 (.ofNat 0), .int 0 (.ofNat 0), .int 0 (.ofNat 0), .int 0 (.ofNat 0), .int 3 (.ofNat 0), .int 1 (.ofNat 0), .nilS] [(0, 9)] [.t 23]), a_ 1 17 (l_ 16), e_ 9 25 (.app 52 9 80 (.t 17) (.t 24)), p_ 10 26 (f_ 8 3), e0_ 11 (.st 1 (.t 26) (.t 25))])) (g_ 3 [p_ 0 14 (m_ 4), p_ 1 15 (.bin 0 0 (.t 14) (i_ 1)), p_ 2 4 (m_ 15)]))) [(0, [.can 0 [1, 2, 3, 4]]), (2, [.can 0 [2, 3]])])
theorem vb_l_own (p : A_l_own) (K : KC) (hpre : pre_l_own p) (hK : out_l_own p K = true) : (codeX (cfT nat_conf) lp_own 600 bd_l_own (I_l_own p).1 (I_l_own p).2.1 (I_l_own p).2.2 (fun e S M nx => Nat.casesOn e (exB fun q : A_l_own => must (prB ((S, M, nx) = I_l_own q ∧ mu_l_own q < mu_l_own p)) (sp_l_own q K)) (fun e2 => K (Nat.succ e2) S M nx))) = true := by
 refine Eq.trans (b := (iP (p.i < (p.s.os.length : Int)) (mP (0 ≤ p.i ∧ p.i < (p.s.os.length : Int)) (allB fun x1 : OpR => iP (p.s.os[p.i.toNat]? = some x1) (useC (([.sy (.imm x1.hp 5 PtR x1.ps encP)], .leaf, 0)) I_parts pre_parts po_parts fun p1 r1 => mP (((.int 0 x1.kind) : SY) = (.int 0 x1.kind)) (mP (((.int 0 x1.x) : SY) = (.int 0 x1.x)) (mP (((.int 0 x1.y) : SY) = (.int 0 x1.y)) (mP (((.int 0 x1.i) : SY) = (.int 0 x1.i)) (mP (((.int 0 x1.at_) : SY) = (.int 0 x1.at_)) (mP (((.int 0 x1.mode) : SY) = (.int 0 x1.mode)) (mP (((.int 3 x1.mask) : SY) = (.int 3 x1.mask)) (mP (((.int 1 x1.grp) : SY) = (.int 1 x1.grp)) (mP (((.prow 3 p.o.length) : SY) = (.prow 3 p.o.length)) (mP (((.prow 3 p.o.length) : SY) = (.prow 3 p.o.length)) (mP (p.o.length = p.o.length) (exB fun m1 : List OpR => mP (rowsR (m1.map encO) [[.sint 0 x1.kind, .sint 0 x1.x, .sint 0 x1.y, .sint 0 x1.i, .sint 0 x1.at_, .sint 0 x1.mode, .sint 3 x1.mask, .sint 1 x1.grp, .imm r1.h 5 PtR r1.o encP]]) (mP (limP 80 (p.o.length + m1.length)) (mP (InR 0 (p.i + (1 : Int))) (exB fun q1 : A_l_own => mP (((.cons 4 (.sy (.int 0 (p.i + (1 : Int)))) (.cons 3 (.ptr 2 0) (.cons 2 (.ptr 1 0) (.cons 1 (.ptr 0 0) .nil)))), (.node (.node (.node .leaf (some (.prow 52 9 OpR (p.o ++ m1) encO)) .leaf) (some (.blk false 39 9 [[.nilS, .int 0 (.ofNat 0), .int 0 (.ofNat 0), .int 0 (.ofNat 0), .int 0 (.ofNat 0), .int 0 (.ofNat 0), .int 0 (.ofNat 0), .int 4 (.ofNat 0), .nilS]])) .leaf) (some (.blk false 28 9 [[.sy (.imm p.s.hg 3 GrR p.s.gs encG), .sy (.int 0 p.s.clients), .sy (.int 0 p.s.window), .sy (.int 0 p.s.deadline), .sy (.int 0 p.s.pace), .sy (.int 0 p.s.again), .sy (.int 0 p.s.bag), .sy (.int 4 p.s.first), .sy (.imm p.s.ho 9 OpR p.s.os encO)]])) (.node .leaf (some (.blk false 39 9 [[.sy (.imm p.hg 3 GrR p.gs encG), .sy (.int 0 p.s.clients), .sy (.int 0 p.s.window), .sy (.int 0 p.s.deadline), .sy (.int 0 p.s.pace), .sy (.int 0 p.s.again), .sy (.int 0 p.s.bag), .sy (.int 4 p.s.first), .sy (.prow 3 ((p.o ++ m1).length))]])) .leaf)), 4) = I_l_own q1 ∧ mu_l_own q1 < mu_l_own p) (sp_l_own q1 K)))))))))))))))) true)) (K 2 (.cons 3 (.ptr 1 0) (.cons 2 (.ptr 0 0) .nil)) (.node (.node .leaf (some (.blk false 39 9 [[.sy (.imm p.hg 3 GrR p.gs encG), .sy (.int 0 p.s.clients), .sy (.int 0 p.s.window), .sy (.int 0 p.s.deadline), .sy (.int 0 p.s.pace), .sy (.int 0 p.s.again), .sy (.int 0 p.s.bag), .sy (.int 4 p.s.first), .sy (.prow 2 p.o.length)]])) .leaf) (some (.blk false 39 9 [[.nilS, .int 0 (.ofNat 0), .int 0 (.ofNat 0), .int 0 (.ofNat 0), .int 0 (.ofNat 0), .int 0 (.ofNat 0), .int 0 (.ofNat 0), .int 4 (.ofNat 0), .nilS]])) (.node .leaf (some (.prow 52 9 OpR p.o encO)) .leaf)) 3))) (by kernel_rfl) ?_
 dsimp only [pre_l_own] at hpre
 obtain ⟨g0, g1, g2, g3, g4⟩ := hpre
 have g9 := g0.1
 refine iI (fun hc1 => ?_) (fun hc1 => ?_)
 refine mI (by first | omega | (constructor <;> omega)) ?_
 refine allB_mk (fun x1 => ?_)
 refine iI (fun hi2 => ?_) (fun _ => rfl)
 have hm := g0.2 _ x1 (by assumption)
 refine callPR (⟨x1.hp, x1.ps⟩ : A_parts) rfl (by (try dsimp only [pre_parts]); omega) fun r1 hi3 => ?_
 dsimp only [po_parts] at hi3
 refine mI (rfl) (mI (rfl) (mI (rfl) (mI (rfl) (mI (rfl) (mI (rfl) (mI (rfl) (mI (rfl) (mI (rfl) (mI (rfl) (mI (rfl) ?_))))))))))
 refine exB_mk [({ x1 with hp := r1.h, ps := r1.o } : OpR)] ?_
 refine mI (show rowsR ([({ x1 with hp := r1.h, ps := r1.o } : OpR)].map encO) [[.sint 0 x1.kind, .sint 0 x1.x, .sint 0 x1.y, .sint 0 x1.i, .sint 0 x1.at_, .sint 0 x1.mode, .sint 3 x1.mask, .sint 1 x1.grp, .imm r1.h 5 PtR r1.o encP]] from ⟨⟨.inl rfl, ⟨.inl rfl, ⟨.inl rfl, ⟨.inl rfl, ⟨.inl rfl, ⟨.inl rfl, ⟨.inl rfl, ⟨.inl rfl, ⟨.inl rfl, trivial⟩⟩⟩⟩⟩⟩⟩⟩⟩, trivial⟩) (mI (by (try dsimp only); (first | omega | (simp [limP] <;> omega))) ?_)
 refine mI (by simp only [InR]; omega) ?_
 exact bk_l_own (q := ⟨p.s, p.hg, p.gs, p.o ++ [({ x1 with hp := r1.h, ps := r1.o } : OpR)], p.i + (1 : Int)⟩) (by dsimp only [mu_l_own]; omega) (by dsimp only [pre_l_own]; exact ⟨g0, by omega, by omega, by simp; omega, map_app (by omega) g4 (by assumption) (by simp only [opk]; rw [hi3])⟩) hK rfl
 exact fin_l_own hK ⟨p.o⟩ (by dsimp only [po_l_own] <;> exact map_end g4 (by omega))
theorem lo_l_own : LpOk Tryd.prog 28 0 lp_own true 0 bd_l_own := by
 exact lp_of (lf := 600) ts_mix (cfT_ok nat_conf_ok) (by rfl) I_l_own mu_l_own sp_l_own (fun b j x h => by cases h) (fun S M nx K h => by obtain ⟨p, h⟩ := exB_ok h; exact ⟨p, (mustP_ok h).1, (mustP_ok h).2⟩) (fun p K h => vb_l_own p K (mustP_ok h).1 (mustP_ok h).2)
structure A_own where
 s : ScR
structure R_own where
 t : ScR
def po_own (p : A_own) (r : R_own) : Prop := sck r.t = sck p.s
noncomputable def I_own (p : A_own) : IE := ([.agg [.sy (.imm p.s.hg 3 GrR p.s.gs encG), .sy (.int 0 p.s.clients), .sy (.int 0 p.s.window), .sy (.int 0 p.s.deadline), .sy (.int 0 p.s.pace), .sy (.int 0 p.s.again), .sy (.int 0 p.s.bag), .sy (.int 4 p.s.first), .sy (.imm p.s.ho 9 OpR p.s.os encO)]], .leaf, 0)
noncomputable def out_own (p : A_own) (K : KE) : Bool := allB fun r : R_own => iP (po_own p r) (K (.agg [.sy (.imm r.t.hg 3 GrR r.t.gs encG), .sy (.int 0 r.t.clients), .sy (.int 0 r.t.window), .sy (.int 0 r.t.deadline), .sy (.int 0 r.t.pace), .sy (.int 0 r.t.again), .sy (.int 0 r.t.bag), .sy (.int 4 r.t.first), .sy (.imm r.t.ho 9 OpR r.t.os encO)]) .leaf 0) true
def pre_own (p : A_own) : Prop := okO p.s.os ∧ p.s.gs.length ≤ 10
theorem fin_own {p : A_own} {K : KE} (hK : out_own p K = true) (r : R_own) (h : po_own p r) : K (.agg [.sy (.imm r.t.hg 3 GrR r.t.gs encG), .sy (.int 0 r.t.clients), .sy (.int 0 r.t.window), .sy (.int 0 r.t.deadline), .sy (.int 0 r.t.pace), .sy (.int 0 r.t.again), .sy (.int 0 r.t.bag), .sy (.int 4 r.t.first), .sy (.imm r.t.ho 9 OpR r.t.os encO)]) .leaf 0 = true := ifB_use h (allB_ok hK r)
theorem vf_own (p : A_own) (K : KE) (hpre : pre_own p) (hK : out_own p K = true) : (funE 0 (cfT nat_conf) lp_own 600 ft_own (I_own p).1 (I_own p).2.1 (I_own p).2.2 K) = true := by
 refine Eq.trans (b := (useC (([.agg [.sy (.imm p.s.hg 3 GrR p.s.gs encG), .sy (.int 0 p.s.clients), .sy (.int 0 p.s.window), .sy (.int 0 p.s.deadline), .sy (.int 0 p.s.pace), .sy (.int 0 p.s.again), .sy (.int 0 p.s.bag), .sy (.int 4 p.s.first)]], .leaf, 0)) I_conf pre_conf po_conf fun p1 r1 => mP ((.nilS : AV) = (.nilS : AV)) (useC (((.cons 4 (.sy (.int 0 0)) (.cons 3 (.ptr 2 0) (.cons 2 (.ptr 1 0) (.cons 1 (.ptr 0 0) .nil)))), (.node (.node (.node .leaf (some (.prow 52 9 OpR ([] : List OpR) encO)) .leaf) (some (.blk false 39 9 [[.nilS, .int 0 (.ofNat 0), .int 0 (.ofNat 0), .int 0 (.ofNat 0), .int 0 (.ofNat 0), .int 0 (.ofNat 0), .int 0 (.ofNat 0), .int 4 (.ofNat 0), .nilS]])) .leaf) (some (.blk false 28 9 [[.sy (.imm p.s.hg 3 GrR p.s.gs encG), .sy (.int 0 p.s.clients), .sy (.int 0 p.s.window), .sy (.int 0 p.s.deadline), .sy (.int 0 p.s.pace), .sy (.int 0 p.s.again), .sy (.int 0 p.s.bag), .sy (.int 4 p.s.first), .sy (.imm p.s.ho 9 OpR p.s.os encO)]])) (.node .leaf (some (.blk false 39 9 [[.sy (.imm r1.h 3 GrR r1.o encG), .sy (.int 0 p1.clients), .sy (.int 0 p1.window), .sy (.int 0 p1.deadline), .sy (.int 0 p1.pace), .sy (.int 0 p1.again), .sy (.int 0 p1.bag), .sy (.int 4 p1.first), .sy (.prow 3 0)]])) .leaf)), 4)) I_l_own pre_l_own po_l_own fun p2 r2 => mP (r2.o.length = r2.o.length) (allB fun h1 : Value => mP ((.sy (.prow 2 r2.o.length) : AV) = (.sy (.prow 2 r2.o.length) : AV)) (K (.agg [.sy (.imm p2.hg 3 GrR p2.gs encG), .sy (.int 0 p2.s.clients), .sy (.int 0 p2.s.window), .sy (.int 0 p2.s.deadline), .sy (.int 0 p2.s.pace), .sy (.int 0 p2.s.again), .sy (.int 0 p2.s.bag), .sy (.int 4 p2.s.first), .sy (.imm h1 9 OpR r2.o encO)]) .leaf 0))))) (by kernel_rfl) ?_
 dsimp only [pre_own] at hpre
 have q2 := hpre.2
 refine callPR (⟨p.s.hg, p.s.gs, p.s.clients, p.s.window, p.s.deadline, p.s.pace, p.s.again, p.s.bag, p.s.first⟩ : A_conf) rfl (by (try dsimp only [pre_conf]); omega) fun r1 hi1 => ?_
 dsimp only [po_conf] at hi1
 refine mI (rfl) ?_
 refine callPR (⟨p.s, r1.h, r1.o, ([] : List OpR), (0 : Int)⟩ : A_l_own) rfl (by (try dsimp only [pre_l_own]); exact ⟨hpre.1, by omega, by omega, by simp, by simp⟩) fun r2 hi2 => ?_
 dsimp only [po_l_own] at hi2
 refine mI (rfl) ?_
 refine allB_mk (fun h1 => ?_)
 refine mI (rfl) ?_
 exact fin_own hK ⟨({ p.s with hg := r1.h, gs := r1.o, ho := h1, os := r2.o } : ScR)⟩ (by dsimp only [po_own] <;> (simp only [sck]; rw [hi1, hi2]))
noncomputable def nat_own := natC nat_conf 0 (esOf I_own (spP pre_own out_own)) 8 [(0, 15)]
theorem nat_own_ok : NatsOk Tryd.prog nat_own := natC_ok (natE_said (f := 8) (k := 0) (lp := lp_own) (lf := 600) ts_mix (cfT_ok nat_conf_ok) ft_own_ok (by rfl) (fun b j x h => (mem_step lo_l_own (fun h => (by cases h)) h)) fun p K h => vf_own p K (mustP_ok h).1 (mustP_ok h).2) nat_conf_ok
def ft_equalG : XF := .mk 26 (.one 4) (.aft (.seq (g_ 1 [p_ 0 4 (.mv (.c (.bool false)))]) (.seq (.seq (g_ 5 [p_ 0 6 (m_ 0), p_ 1 7 (k_ 6), p_ 2 8 (m_ 1), p_ 3 9 (k_ 8), p_ 4 10 (.bin 3 5 (.t 7) (.t 9))]) (.cond (.t 10) (.seq (g_ 1 [p_ 0 4 (.mv (.c (.bool false)))]) .ret) .skip)) (.seq (.seq (g_ 3 [p_ 0 11 (m_ 0), p_ 1 12 (k_ 11), p_ 2 13 (.mv (i_ 0))]) (.block 2 (.pre [.can 0 [0, 1, 12, 13], .up 12, .up 13, .can 0 [0, 1, 12, 13]] (.inv 0 (.aft (.seq (g_ 1 [p_ 0 14 (.bin 3 0 (.t 13) (.t 12))]) (.seq (.cond (.t 14) .skip (.exit 2)) (.seq (.block 3 (.seq (g_ 2 [p_ 0 15 (m_ 13), p_ 1 5 (m_ 15)]) (.seq (h_ 9 [p_ 0 16 (m_ 0), p_ 1 17 (m_ 5), p_ 2 18 (.ixs 3 (.t 16) (.t 17)), r_ 3 19 (.ld true 3 (.t 18)), p_ 4 20 (m_ 1), p_ 5 21 (m_ 5), p_ 6 22 (.ixs 3 (.t 20) (.t 21)), r_ 7 23 (.ld true 3 (.t 22)), p_ 8 24 (.eqs true 2 (.st [(0, 1, false, .int), (1, 1, false, .int), (2, 1, false, .bool)]) (.t 19) (.t 23))]) (.cond (.t 24) (.seq (g_ 1 [p_ 0 4 (.mv (.c (.bool false)))]) .ret) .skip)))) (g_ 2 [p_ 0 25 (.bin 0 0 (.t 13) (i_ 1)), p_ 1 13 (m_ 25)])))) [(0, [.can 0 [0, 1, 12, 13]]), (1, [.can 0 [4]]), (2, [.can 0 []])]))))) (.seq (g_ 1 [p_ 0 4 (.mv (.c (.bool true)))]) .ret)))) [(0, [.up 4]), (1, [.up 4])])
theorem ft_equalG_ok : chkF Tryd.prog 61 ft_equalG = true := by kernel_rfl
structure A_l_equalG where
 h1 : Value
 l1 : List GrR
 h2 : Value
 l2 : List GrR
 i : Int
def po_l_equalG (p : A_l_equalG) : Prop := p.l1 = p.l2
def po_l_equalG1 (p : A_l_equalG) : Prop := ¬ p.l1 = p.l2
noncomputable def I_l_equalG (p : A_l_equalG) : IL := ((.cons 13 (.sy (.int 0 p.i)) (.cons 12 (.sy (.int 0 (p.l1.length : Int))) (.cons 1 (.sy (.imm p.h2 3 GrR p.l2 encG)) (.cons 0 (.sy (.imm p.h1 3 GrR p.l1 encG)) .nil)))), .leaf, 0)
noncomputable def out_l_equalG (p : A_l_equalG) (K : KC) : Bool := must (iP (po_l_equalG p) (K 2 .nil .leaf 0) true) (iP (po_l_equalG1 p) (K 1 (.cons 4 (.bool false) .nil) .leaf 0) true)
def pre_l_equalG (p : A_l_equalG) : Prop := p.l1.length = p.l2.length ∧ 0 ≤ p.i ∧ p.i ≤ (p.l1.length : Int) ∧ p.l1.length ≤ 1000000 ∧ (p.l1.take p.i.toNat).map id = (p.l2.take p.i.toNat).map id
noncomputable def sp_l_equalG (p : A_l_equalG) (K : KC) : Bool := must (prB (pre_l_equalG p)) (out_l_equalG p K)
noncomputable def lp_equalG : LpF := fun j S M nx K => (Bool.rec (false) (exB fun p : A_l_equalG => must (prB ((S, M, nx) = I_l_equalG p)) (sp_l_equalG p K)) (Nat.beq j 0))
def mu_l_equalG (p : A_l_equalG) : Nat := ((p.l1.length : Int) - p.i).toNat
theorem bk_l_equalG {p q : A_l_equalG} {K : KC} {s : IL} (hm : mu_l_equalG q < mu_l_equalG p) (hp : pre_l_equalG q) (hK : out_l_equalG q K = true) (e : s = I_l_equalG q) : (exB fun q => mP (s = I_l_equalG q ∧ mu_l_equalG q < mu_l_equalG p) (sp_l_equalG q K)) = true := exB_mk q (mustP ⟨e, hm⟩ (mustP hp hK))
def bd_l_equalG : XC := (.aft (.seq (g_ 1 [p_ 0 14 (.bin 3 0 (.t 13) (.t 12))]) (.seq (.cond (.t 14) .skip (.exit 2)) (.seq (.block 3 (.seq (g_ 2 [p_ 0 15 (m_ 13), p_ 1 5 (m_ 15)]) (.seq (h_ 9 [p_ 0 16 (m_ 0), p_ 1 17 (m_ 5), p_ 2 18 (.ixs 3 (.t 16) (.t 17)), r_ 3 19 (.ld true 3 (.t 18)), p_ 4 20 (m_ 1), p_ 5 21 (m_ 5), p_ 6 22 (.ixs 3 (.t 20) (.t 21)), r_ 7 23 (.ld true 3 (.t 22)), p_ 8 24 (.eqs true 2 (.st [(0, 1, false, .int), (1, 1, false, .int), (2, 1, false, .bool)]) (.t 19) (.t 23))]) (.cond (.t 24) (.seq (g_ 1 [p_ 0 4 (.mv (.c (.bool false)))]) .ret) .skip)))) (g_ 2 [p_ 0 25 (.bin 0 0 (.t 13) (i_ 1)), p_ 1 13 (m_ 25)])))) [(0, [.can 0 [0, 1, 12, 13]]), (1, [.can 0 [4]]), (2, [.can 0 []])])
theorem vb_l_equalG (p : A_l_equalG) (K : KC) (hpre : pre_l_equalG p) (hK : out_l_equalG p K = true) : (codeX (cfT nat_own) lp_equalG 600 bd_l_equalG (I_l_equalG p).1 (I_l_equalG p).2.1 (I_l_equalG p).2.2 (fun e S M nx => Nat.casesOn e (exB fun q : A_l_equalG => must (prB ((S, M, nx) = I_l_equalG q ∧ mu_l_equalG q < mu_l_equalG p)) (sp_l_equalG q K)) (fun e2 => K (Nat.succ e2) S M nx))) = true := by
 refine Eq.trans (b := (let z0 : Bool := (K 1 (.cons 4 (.bool false) .nil) .leaf 0); iP (p.i < (p.l1.length : Int)) (mP (0 ≤ p.i ∧ p.i < (p.l1.length : Int)) (allB fun x1 : GrR => iP (p.l1[p.i.toNat]? = some x1) (mP (0 ≤ p.i ∧ p.i < (p.l2.length : Int)) (allB fun x2 : GrR => iP (p.l2[p.i.toNat]? = some x2) (iP (x1.f = x2.f) (iP (x1.s = x2.s) (iP (x1.c) (iP (x2.c) (mP (InR 0 (p.i + (1 : Int))) (exB fun q1 : A_l_equalG => mP (((.cons 13 (.sy (.int 0 (p.i + (1 : Int)))) (.cons 12 (.sy (.int 0 (p.l1.length : Int))) (.cons 1 (.sy (.imm p.h2 3 GrR p.l2 encG)) (.cons 0 (.sy (.imm p.h1 3 GrR p.l1 encG)) .nil)))), .leaf, 0) = I_l_equalG q1 ∧ mu_l_equalG q1 < mu_l_equalG p) (sp_l_equalG q1 K))) z0) (iP (x2.c) z0 (mP (InR 0 (p.i + (1 : Int))) (exB fun q2 : A_l_equalG => mP (((.cons 13 (.sy (.int 0 (p.i + (1 : Int)))) (.cons 12 (.sy (.int 0 (p.l1.length : Int))) (.cons 1 (.sy (.imm p.h2 3 GrR p.l2 encG)) (.cons 0 (.sy (.imm p.h1 3 GrR p.l1 encG)) .nil)))), .leaf, 0) = I_l_equalG q2 ∧ mu_l_equalG q2 < mu_l_equalG p) (sp_l_equalG q2 K))))) z0) z0) true)) true)) (K 2 .nil .leaf 0))) (by kernel_rfl) ?_
 obtain ⟨hK0, hKr0⟩ := must_ok hK
 have hK1 := hKr0
 dsimp only [pre_l_equalG] at hpre
 obtain ⟨g0, g1, g2, g3, g4⟩ := hpre
 refine iI (fun hc1 => ?_) (fun hc1 => ?_)
 refine mI (by first | omega | (constructor <;> omega)) ?_
 refine allB_mk (fun x1 => ?_)
 refine iI (fun hi2 => ?_) (fun _ => rfl)
 refine mI (by first | omega | (constructor <;> omega)) ?_
 refine allB_mk (fun x2 => ?_)
 refine iI (fun hi3 => ?_) (fun _ => rfl)
 refine iI (fun hc4 => ?_) (fun hc4 => ?_)
 refine iI (fun hc5 => ?_) (fun hc5 => ?_)
 refine iI (fun hc6 => ?_) (fun hc6 => ?_)
 refine iI (fun hc7 => ?_) (fun hc7 => ?_)
 refine mI (by simp only [InR]; omega) ?_
 exact bk_l_equalG (q := ⟨p.h1, p.l1, p.h2, p.l2, p.i + (1 : Int)⟩) (by dsimp only [mu_l_equalG]; omega) (by dsimp only [pre_l_equalG]; refine ⟨g0, by omega, by omega, g3, take_step (by omega) g4 hi2 hi3 ?_⟩; show x1 = x2; obtain ⟨⟩ := x1; obtain ⟨⟩ := x2; simp_all) hK rfl
 exact ifB_use (show ¬ p.l1 = p.l2 from (by intro e; rw [e] at hi2; have e2 := Option.some.inj (hi2.symm.trans hi3); subst e2; first | contradiction | omega | simp_all)) hK1
 refine iI (fun hc8 => ?_) (fun hc8 => ?_)
 exact ifB_use (show ¬ p.l1 = p.l2 from (by intro e; rw [e] at hi2; have e2 := Option.some.inj (hi2.symm.trans hi3); subst e2; first | contradiction | omega | simp_all)) hK1
 refine mI (by simp only [InR]; omega) ?_
 exact bk_l_equalG (q := ⟨p.h1, p.l1, p.h2, p.l2, p.i + (1 : Int)⟩) (by dsimp only [mu_l_equalG]; omega) (by dsimp only [pre_l_equalG]; refine ⟨g0, by omega, by omega, g3, take_step (by omega) g4 hi2 hi3 ?_⟩; show x1 = x2; obtain ⟨⟩ := x1; obtain ⟨⟩ := x2; simp_all) hK rfl
 exact ifB_use (show ¬ p.l1 = p.l2 from (by intro e; rw [e] at hi2; have e2 := Option.some.inj (hi2.symm.trans hi3); subst e2; first | contradiction | omega | simp_all)) hK1
 exact ifB_use (show ¬ p.l1 = p.l2 from (by intro e; rw [e] at hi2; have e2 := Option.some.inj (hi2.symm.trans hi3); subst e2; first | contradiction | omega | simp_all)) hK1
 exact ifB_use (show p.l1 = p.l2 from (by have e := take_end g4 (by omega) (by omega); simpa using e)) hK0
theorem lo_l_equalG : LpOk Tryd.prog 26 0 lp_equalG true 0 bd_l_equalG := by
 exact lp_of (lf := 600) ts_mix (cfT_ok nat_own_ok) (by rfl) I_l_equalG mu_l_equalG sp_l_equalG (fun b j x h => by cases h) (fun S M nx K h => by obtain ⟨p, h⟩ := exB_ok h; exact ⟨p, (mustP_ok h).1, (mustP_ok h).2⟩) (fun p K h => vb_l_equalG p K (mustP_ok h).1 (mustP_ok h).2)
structure A_equalG where
 h1 : Value
 l1 : List GrR
 h2 : Value
 l2 : List GrR
structure R_equalG where
 q : Prop
def po_equalG (p : A_equalG) (r : R_equalG) : Prop := r.q ↔ p.l1 = p.l2
noncomputable def I_equalG (p : A_equalG) : IE := ([.sy (.imm p.h1 3 GrR p.l1 encG), .sy (.imm p.h2 3 GrR p.l2 encG)], .leaf, 0)
noncomputable def out_equalG (p : A_equalG) (K : KE) : Bool := allB fun r : R_equalG => iP (po_equalG p r) (K (.sy (.bool r.q)) .leaf 0) true
def pre_equalG (p : A_equalG) : Prop := p.l1.length ≤ 1000000 ∧ p.l2.length ≤ 1000000
theorem fin_equalG {p : A_equalG} {K : KE} (hK : out_equalG p K = true) (r : R_equalG) (h : po_equalG p r) : K (.sy (.bool r.q)) .leaf 0 = true := ifB_use h (allB_ok hK r)
theorem vf_equalG (p : A_equalG) (K : KE) (hpre : pre_equalG p) (hK : out_equalG p K = true) : (funE 0 (cfT nat_own) lp_equalG 600 ft_equalG (I_equalG p).1 (I_equalG p).2.1 (I_equalG p).2.2 K) = true := by
 refine Eq.trans (b := (iP (¬ (p.l1.length : Int) = (p.l2.length : Int)) (K (.sy (.bool (false = true))) .leaf 0) (exB fun p1 : A_l_equalG => mP (((.cons 13 (.sy (.int 0 0)) (.cons 12 (.sy (.int 0 (p.l1.length : Int))) (.cons 1 (.sy (.imm p.h2 3 GrR p.l2 encG)) (.cons 0 (.sy (.imm p.h1 3 GrR p.l1 encG)) .nil)))), .leaf, 0) = I_l_equalG p1) (mP (pre_l_equalG p1) (must (iP (po_l_equalG p1) (K (.sy (.bool (true = true))) .leaf 0) true) (iP (po_l_equalG1 p1) (K (.sy (.bool (false = true))) .leaf 0) true)))))) (by kernel_rfl) ?_
 dsimp only [pre_equalG] at hpre
 obtain ⟨u1, u2⟩ := hpre
 refine iI (fun hc1 => ?_) (fun hc1 => ?_)
 exact fin_equalG hK ⟨false = true⟩ (by dsimp only [po_equalG] <;> (first | (simp; done) | (simp; assumption) | (simp; intro e; exact hc1 (by rw [e])) | simp_all))
 refine callP (⟨p.h1, p.l1, p.h2, p.l2, (0 : Int)⟩ : A_l_equalG) rfl (by (try dsimp only [pre_l_equalG]); refine ⟨by omega, by omega, by omega, by omega, rfl⟩) ?_
 refine must_mk ?_ ?_
 refine iI (p := p.l1 = p.l2) (fun hi2 => ?_) (fun _ => rfl)
 exact fin_equalG hK ⟨true = true⟩ (by dsimp only [po_equalG] <;> (first | (simp; done) | (simp; assumption) | (simp; intro e; exact hc1 (by rw [e])) | simp_all))
 refine iI (p := ¬ p.l1 = p.l2) (fun hi3 => ?_) (fun _ => rfl)
 exact fin_equalG hK ⟨false = true⟩ (by dsimp only [po_equalG] <;> (first | (simp; done) | (simp; assumption) | (simp; intro e; exact hc1 (by rw [e])) | simp_all))
noncomputable def nat_equalG := natC nat_own 0 (esOf I_equalG (spP pre_equalG out_equalG)) 61 [(0, 23), (1, 23)]
theorem nat_equalG_ok : NatsOk Tryd.prog nat_equalG := natC_ok (natE_said (f := 61) (k := 0) (lp := lp_equalG) (lf := 600) ts_mix (cfT_ok nat_own_ok) ft_equalG_ok (by rfl) (fun b j x h => (mem_step lo_l_equalG (fun h => (by cases h)) h)) fun p K h => vf_equalG p K (mustP_ok h).1 (mustP_ok h).2) nat_own_ok
def ft_equalP : XF := .mk 26 (.one 4) (.aft (.seq (g_ 1 [p_ 0 4 (.mv (.c (.bool false)))]) (.seq (.seq (g_ 5 [p_ 0 6 (m_ 0), p_ 1 7 (k_ 6), p_ 2 8 (m_ 1), p_ 3 9 (k_ 8), p_ 4 10 (.bin 3 5 (.t 7) (.t 9))]) (.cond (.t 10) (.seq (g_ 1 [p_ 0 4 (.mv (.c (.bool false)))]) .ret) .skip)) (.seq (.seq (g_ 3 [p_ 0 11 (m_ 0), p_ 1 12 (k_ 11), p_ 2 13 (.mv (i_ 0))]) (.block 2 (.pre [.can 0 [0, 1, 12, 13], .up 12, .up 13, .can 0 [0, 1, 12, 13]] (.inv 0 (.aft (.seq (g_ 1 [p_ 0 14 (.bin 3 0 (.t 13) (.t 12))]) (.seq (.cond (.t 14) .skip (.exit 2)) (.seq (.block 3 (.seq (g_ 2 [p_ 0 15 (m_ 13), p_ 1 5 (m_ 15)]) (.seq (h_ 9 [p_ 0 16 (m_ 0), p_ 1 17 (m_ 5), p_ 2 18 (.ixs 5 (.t 16) (.t 17)), r_ 3 19 (.ld true 5 (.t 18)), p_ 4 20 (m_ 1), p_ 5 21 (m_ 5), p_ 6 22 (.ixs 5 (.t 20) (.t 21)), r_ 7 23 (.ld true 5 (.t 22)), p_ 8 24 (.eqs true 2 (.st [(0, 1, false, .int), (1, 1, false, .int), (2, 1, false, .str), (3, 1, false, .str), (4, 1, false, .int)]) (.t 19) (.t 23))]) (.cond (.t 24) (.seq (g_ 1 [p_ 0 4 (.mv (.c (.bool false)))]) .ret) .skip)))) (g_ 2 [p_ 0 25 (.bin 0 0 (.t 13) (i_ 1)), p_ 1 13 (m_ 25)])))) [(0, [.can 0 [0, 1, 12, 13]]), (1, [.can 0 [4]]), (2, [.can 0 []])]))))) (.seq (g_ 1 [p_ 0 4 (.mv (.c (.bool true)))]) .ret)))) [(0, [.up 4]), (1, [.up 4])])
theorem ft_equalP_ok : chkF Tryd.prog 78 ft_equalP = true := by kernel_rfl
structure A_l_equalP where
 h1 : Value
 l1 : List PtR
 h2 : Value
 l2 : List PtR
 i : Int
def po_l_equalP (p : A_l_equalP) : Prop := p.l1 = p.l2
def po_l_equalP1 (p : A_l_equalP) : Prop := ¬ p.l1 = p.l2
noncomputable def I_l_equalP (p : A_l_equalP) : IL := ((.cons 13 (.sy (.int 0 p.i)) (.cons 12 (.sy (.int 0 (p.l1.length : Int))) (.cons 1 (.sy (.imm p.h2 5 PtR p.l2 encP)) (.cons 0 (.sy (.imm p.h1 5 PtR p.l1 encP)) .nil)))), .leaf, 0)
noncomputable def out_l_equalP (p : A_l_equalP) (K : KC) : Bool := must (iP (po_l_equalP p) (K 2 .nil .leaf 0) true) (iP (po_l_equalP1 p) (K 1 (.cons 4 (.bool false) .nil) .leaf 0) true)
def pre_l_equalP (p : A_l_equalP) : Prop := p.l1.length = p.l2.length ∧ 0 ≤ p.i ∧ p.i ≤ (p.l1.length : Int) ∧ p.l1.length ≤ 1000000 ∧ (p.l1.take p.i.toNat).map id = (p.l2.take p.i.toNat).map id
noncomputable def sp_l_equalP (p : A_l_equalP) (K : KC) : Bool := must (prB (pre_l_equalP p)) (out_l_equalP p K)
noncomputable def lp_equalP : LpF := fun j S M nx K => (Bool.rec (false) (exB fun p : A_l_equalP => must (prB ((S, M, nx) = I_l_equalP p)) (sp_l_equalP p K)) (Nat.beq j 0))
def mu_l_equalP (p : A_l_equalP) : Nat := ((p.l1.length : Int) - p.i).toNat
theorem bk_l_equalP {p q : A_l_equalP} {K : KC} {s : IL} (hm : mu_l_equalP q < mu_l_equalP p) (hp : pre_l_equalP q) (hK : out_l_equalP q K = true) (e : s = I_l_equalP q) : (exB fun q => mP (s = I_l_equalP q ∧ mu_l_equalP q < mu_l_equalP p) (sp_l_equalP q K)) = true := exB_mk q (mustP ⟨e, hm⟩ (mustP hp hK))
def bd_l_equalP : XC := (.aft (.seq (g_ 1 [p_ 0 14 (.bin 3 0 (.t 13) (.t 12))]) (.seq (.cond (.t 14) .skip (.exit 2)) (.seq (.block 3 (.seq (g_ 2 [p_ 0 15 (m_ 13), p_ 1 5 (m_ 15)]) (.seq (h_ 9 [p_ 0 16 (m_ 0), p_ 1 17 (m_ 5), p_ 2 18 (.ixs 5 (.t 16) (.t 17)), r_ 3 19 (.ld true 5 (.t 18)), p_ 4 20 (m_ 1), p_ 5 21 (m_ 5), p_ 6 22 (.ixs 5 (.t 20) (.t 21)), r_ 7 23 (.ld true 5 (.t 22)), p_ 8 24 (.eqs true 2 (.st [(0, 1, false, .int), (1, 1, false, .int), (2, 1, false, .str), (3, 1, false, .str), (4, 1, false, .int)]) (.t 19) (.t 23))]) (.cond (.t 24) (.seq (g_ 1 [p_ 0 4 (.mv (.c (.bool false)))]) .ret) .skip)))) (g_ 2 [p_ 0 25 (.bin 0 0 (.t 13) (i_ 1)), p_ 1 13 (m_ 25)])))) [(0, [.can 0 [0, 1, 12, 13]]), (1, [.can 0 [4]]), (2, [.can 0 []])])
theorem vb_l_equalP (p : A_l_equalP) (K : KC) (hpre : pre_l_equalP p) (hK : out_l_equalP p K = true) : (codeX (cfT nat_equalG) lp_equalP 600 bd_l_equalP (I_l_equalP p).1 (I_l_equalP p).2.1 (I_l_equalP p).2.2 (fun e S M nx => Nat.casesOn e (exB fun q : A_l_equalP => must (prB ((S, M, nx) = I_l_equalP q ∧ mu_l_equalP q < mu_l_equalP p)) (sp_l_equalP q K)) (fun e2 => K (Nat.succ e2) S M nx))) = true := by
 refine Eq.trans (b := (let z0 : Bool := (K 1 (.cons 4 (.bool false) .nil) .leaf 0); iP (p.i < (p.l1.length : Int)) (mP (0 ≤ p.i ∧ p.i < (p.l1.length : Int)) (allB fun x1 : PtR => iP (p.l1[p.i.toNat]? = some x1) (mP (0 ≤ p.i ∧ p.i < (p.l2.length : Int)) (allB fun x2 : PtR => iP (p.l2[p.i.toNat]? = some x2) (iP (x1.g = x2.g) (iP (x1.k = x2.k) (iP (x1.key = x2.key) (iP (x1.val = x2.val) (iP (x1.n = x2.n) (mP (InR 0 (p.i + (1 : Int))) (exB fun q1 : A_l_equalP => mP (((.cons 13 (.sy (.int 0 (p.i + (1 : Int)))) (.cons 12 (.sy (.int 0 (p.l1.length : Int))) (.cons 1 (.sy (.imm p.h2 5 PtR p.l2 encP)) (.cons 0 (.sy (.imm p.h1 5 PtR p.l1 encP)) .nil)))), .leaf, 0) = I_l_equalP q1 ∧ mu_l_equalP q1 < mu_l_equalP p) (sp_l_equalP q1 K))) z0) z0) z0) z0) z0) true)) true)) (K 2 .nil .leaf 0))) (by kernel_rfl) ?_
 obtain ⟨hK0, hKr0⟩ := must_ok hK
 have hK1 := hKr0
 dsimp only [pre_l_equalP] at hpre
 obtain ⟨g0, g1, g2, g3, g4⟩ := hpre
 refine iI (fun hc1 => ?_) (fun hc1 => ?_)
 refine mI (by first | omega | (constructor <;> omega)) ?_
 refine allB_mk (fun x1 => ?_)
 refine iI (fun hi2 => ?_) (fun _ => rfl)
 refine mI (by first | omega | (constructor <;> omega)) ?_
 refine allB_mk (fun x2 => ?_)
 refine iI (fun hi3 => ?_) (fun _ => rfl)
 refine iI (fun hc4 => ?_) (fun hc4 => ?_)
 refine iI (fun hc5 => ?_) (fun hc5 => ?_)
 refine iI (fun hc6 => ?_) (fun hc6 => ?_)
 refine iI (fun hc7 => ?_) (fun hc7 => ?_)
 refine iI (fun hc8 => ?_) (fun hc8 => ?_)
 refine mI (by simp only [InR]; omega) ?_
 exact bk_l_equalP (q := ⟨p.h1, p.l1, p.h2, p.l2, p.i + (1 : Int)⟩) (by dsimp only [mu_l_equalP]; omega) (by dsimp only [pre_l_equalP]; refine ⟨g0, by omega, by omega, g3, take_step (by omega) g4 hi2 hi3 ?_⟩; show x1 = x2; obtain ⟨⟩ := x1; obtain ⟨⟩ := x2; simp_all) hK rfl
 exact ifB_use (show ¬ p.l1 = p.l2 from (by intro e; rw [e] at hi2; have e2 := Option.some.inj (hi2.symm.trans hi3); subst e2; first | contradiction | omega | simp_all)) hK1
 exact ifB_use (show ¬ p.l1 = p.l2 from (by intro e; rw [e] at hi2; have e2 := Option.some.inj (hi2.symm.trans hi3); subst e2; first | contradiction | omega | simp_all)) hK1
 exact ifB_use (show ¬ p.l1 = p.l2 from (by intro e; rw [e] at hi2; have e2 := Option.some.inj (hi2.symm.trans hi3); subst e2; first | contradiction | omega | simp_all)) hK1
 exact ifB_use (show ¬ p.l1 = p.l2 from (by intro e; rw [e] at hi2; have e2 := Option.some.inj (hi2.symm.trans hi3); subst e2; first | contradiction | omega | simp_all)) hK1
 exact ifB_use (show ¬ p.l1 = p.l2 from (by intro e; rw [e] at hi2; have e2 := Option.some.inj (hi2.symm.trans hi3); subst e2; first | contradiction | omega | simp_all)) hK1
 exact ifB_use (show p.l1 = p.l2 from (by have e := take_end g4 (by omega) (by omega); simpa using e)) hK0
theorem lo_l_equalP : LpOk Tryd.prog 26 0 lp_equalP true 0 bd_l_equalP := by
 exact lp_of (lf := 600) ts_mix (cfT_ok nat_equalG_ok) (by rfl) I_l_equalP mu_l_equalP sp_l_equalP (fun b j x h => by cases h) (fun S M nx K h => by obtain ⟨p, h⟩ := exB_ok h; exact ⟨p, (mustP_ok h).1, (mustP_ok h).2⟩) (fun p K h => vb_l_equalP p K (mustP_ok h).1 (mustP_ok h).2)
structure A_equalP where
 h1 : Value
 l1 : List PtR
 h2 : Value
 l2 : List PtR
structure R_equalP where
 q : Prop
def po_equalP (p : A_equalP) (r : R_equalP) : Prop := r.q ↔ p.l1 = p.l2
noncomputable def I_equalP (p : A_equalP) : IE := ([.sy (.imm p.h1 5 PtR p.l1 encP), .sy (.imm p.h2 5 PtR p.l2 encP)], .leaf, 0)
noncomputable def out_equalP (p : A_equalP) (K : KE) : Bool := allB fun r : R_equalP => iP (po_equalP p r) (K (.sy (.bool r.q)) .leaf 0) true
def pre_equalP (p : A_equalP) : Prop := p.l1.length ≤ 1000000 ∧ p.l2.length ≤ 1000000
theorem fin_equalP {p : A_equalP} {K : KE} (hK : out_equalP p K = true) (r : R_equalP) (h : po_equalP p r) : K (.sy (.bool r.q)) .leaf 0 = true := ifB_use h (allB_ok hK r)
theorem vf_equalP (p : A_equalP) (K : KE) (hpre : pre_equalP p) (hK : out_equalP p K = true) : (funE 0 (cfT nat_equalG) lp_equalP 600 ft_equalP (I_equalP p).1 (I_equalP p).2.1 (I_equalP p).2.2 K) = true := by
 refine Eq.trans (b := (iP (¬ (p.l1.length : Int) = (p.l2.length : Int)) (K (.sy (.bool (false = true))) .leaf 0) (exB fun p1 : A_l_equalP => mP (((.cons 13 (.sy (.int 0 0)) (.cons 12 (.sy (.int 0 (p.l1.length : Int))) (.cons 1 (.sy (.imm p.h2 5 PtR p.l2 encP)) (.cons 0 (.sy (.imm p.h1 5 PtR p.l1 encP)) .nil)))), .leaf, 0) = I_l_equalP p1) (mP (pre_l_equalP p1) (must (iP (po_l_equalP p1) (K (.sy (.bool (true = true))) .leaf 0) true) (iP (po_l_equalP1 p1) (K (.sy (.bool (false = true))) .leaf 0) true)))))) (by kernel_rfl) ?_
 dsimp only [pre_equalP] at hpre
 obtain ⟨u1, u2⟩ := hpre
 refine iI (fun hc1 => ?_) (fun hc1 => ?_)
 exact fin_equalP hK ⟨false = true⟩ (by dsimp only [po_equalP] <;> (first | (simp; done) | (simp; assumption) | (simp; intro e; exact hc1 (by rw [e])) | simp_all))
 refine callP (⟨p.h1, p.l1, p.h2, p.l2, (0 : Int)⟩ : A_l_equalP) rfl (by (try dsimp only [pre_l_equalP]); refine ⟨by omega, by omega, by omega, by omega, rfl⟩) ?_
 refine must_mk ?_ ?_
 refine iI (p := p.l1 = p.l2) (fun hi2 => ?_) (fun _ => rfl)
 exact fin_equalP hK ⟨true = true⟩ (by dsimp only [po_equalP] <;> (first | (simp; done) | (simp; assumption) | (simp; intro e; exact hc1 (by rw [e])) | simp_all))
 refine iI (p := ¬ p.l1 = p.l2) (fun hi3 => ?_) (fun _ => rfl)
 exact fin_equalP hK ⟨false = true⟩ (by dsimp only [po_equalP] <;> (first | (simp; done) | (simp; assumption) | (simp; intro e; exact hc1 (by rw [e])) | simp_all))
noncomputable def nat_equalP := natC nat_equalG 0 (esOf I_equalP (spP pre_equalP out_equalP)) 78 [(0, 23), (1, 23)]
theorem nat_equalP_ok : NatsOk Tryd.prog nat_equalP := natC_ok (natE_said (f := 78) (k := 0) (lp := lp_equalP) (lf := 600) ts_mix (cfT_ok nat_equalG_ok) ft_equalP_ok (by rfl) (fun b j x h => (mem_step lo_l_equalP (fun h => (by cases h)) h)) fun p K h => vf_equalP p K (mustP_ok h).1 (mustP_ok h).2) nat_equalG_ok
def ft_rsame : XF := .mk 26 (.one 4) (.aft (.seq (g_ 1 [p_ 0 4 (.mv (.c (.bool false)))]) (.seq (.seq (g_ 5 [p_ 0 6 (m_ 0), p_ 1 7 (k_ 6), p_ 2 8 (m_ 1), p_ 3 9 (k_ 8), p_ 4 10 (.bin 3 5 (.t 7) (.t 9))]) (.cond (.t 10) (.seq (g_ 1 [p_ 0 4 (.mv (.c (.bool false)))]) .ret) .skip)) (.seq (.seq (g_ 1 [p_ 0 5 (.mv (i_ 0))]) (.block 2 (.pre [.can 0 [0, 1, 5], .up 5, .can 0 [0, 1, 5]] (.inv 0 (.aft (.seq (.seq (g_ 4 [p_ 0 11 (m_ 5), p_ 1 12 (m_ 0), p_ 2 13 (k_ 12), p_ 3 14 (.bin 3 0 (.t 11) (.t 13))]) (.cond (.t 14) .skip (.exit 2))) (.seq (.block 3 (.seq (h_ 9 [p_ 0 17 (m_ 0), p_ 1 18 (m_ 5), p_ 2 19 (.ixs 5 (.t 17) (.t 18)), r_ 3 20 (.ld true 5 (.t 19)), p_ 4 21 (m_ 1), p_ 5 22 (m_ 5), p_ 6 23 (.ixs 5 (.t 21) (.t 22)), r_ 7 24 (.ld true 5 (.t 23)), p_ 8 25 (.eqs true 2 (.st [(0, 1, false, .int), (1, 1, false, .int), (2, 1, false, .str), (3, 1, false, .str), (4, 1, false, .int)]) (.t 20) (.t 24))]) (.cond (.t 25) (.seq (g_ 1 [p_ 0 4 (.mv (.c (.bool false)))]) .ret) .skip))) (g_ 3 [p_ 0 15 (m_ 5), p_ 1 16 (.bin 0 0 (.t 15) (i_ 1)), p_ 2 5 (m_ 16)]))) [(0, [.can 0 [0, 1, 5]]), (1, [.can 0 [4]]), (2, [.can 0 []])]))))) (.seq (g_ 1 [p_ 0 4 (.mv (.c (.bool true)))]) .ret)))) [(0, [.up 4]), (1, [.up 4])])
theorem ft_rsame_ok : chkF Tryd.prog 63 ft_rsame = true := by kernel_rfl
structure A_l_rsame where
 h1 : Value
 l1 : List PtR
 h2 : Value
 l2 : List PtR
 i : Int
def po_l_rsame (p : A_l_rsame) : Prop := p.l1 = p.l2
def po_l_rsame1 (p : A_l_rsame) : Prop := ¬ p.l1 = p.l2
noncomputable def I_l_rsame (p : A_l_rsame) : IL := ((.cons 5 (.sy (.int 0 p.i)) (.cons 1 (.sy (.imm p.h2 5 PtR p.l2 encP)) (.cons 0 (.sy (.imm p.h1 5 PtR p.l1 encP)) .nil))), .leaf, 0)
noncomputable def out_l_rsame (p : A_l_rsame) (K : KC) : Bool := must (iP (po_l_rsame p) (K 2 .nil .leaf 0) true) (iP (po_l_rsame1 p) (K 1 (.cons 4 (.bool false) .nil) .leaf 0) true)
def pre_l_rsame (p : A_l_rsame) : Prop := p.l1.length = p.l2.length ∧ 0 ≤ p.i ∧ p.i ≤ (p.l1.length : Int) ∧ p.l1.length ≤ 1000000 ∧ (p.l1.take p.i.toNat).map id = (p.l2.take p.i.toNat).map id
noncomputable def sp_l_rsame (p : A_l_rsame) (K : KC) : Bool := must (prB (pre_l_rsame p)) (out_l_rsame p K)
noncomputable def lp_rsame : LpF := fun j S M nx K => (Bool.rec (false) (exB fun p : A_l_rsame => must (prB ((S, M, nx) = I_l_rsame p)) (sp_l_rsame p K)) (Nat.beq j 0))
def mu_l_rsame (p : A_l_rsame) : Nat := ((p.l1.length : Int) - p.i).toNat
theorem bk_l_rsame {p q : A_l_rsame} {K : KC} {s : IL} (hm : mu_l_rsame q < mu_l_rsame p) (hp : pre_l_rsame q) (hK : out_l_rsame q K = true) (e : s = I_l_rsame q) : (exB fun q => mP (s = I_l_rsame q ∧ mu_l_rsame q < mu_l_rsame p) (sp_l_rsame q K)) = true := exB_mk q (mustP ⟨e, hm⟩ (mustP hp hK))
def bd_l_rsame : XC := (.aft (.seq (.seq (g_ 4 [p_ 0 11 (m_ 5), p_ 1 12 (m_ 0), p_ 2 13 (k_ 12), p_ 3 14 (.bin 3 0 (.t 11) (.t 13))]) (.cond (.t 14) .skip (.exit 2))) (.seq (.block 3 (.seq (h_ 9 [p_ 0 17 (m_ 0), p_ 1 18 (m_ 5), p_ 2 19 (.ixs 5 (.t 17) (.t 18)), r_ 3 20 (.ld true 5 (.t 19)), p_ 4 21 (m_ 1), p_ 5 22 (m_ 5), p_ 6 23 (.ixs 5 (.t 21) (.t 22)), r_ 7 24 (.ld true 5 (.t 23)), p_ 8 25 (.eqs true 2 (.st [(0, 1, false, .int), (1, 1, false, .int), (2, 1, false, .str), (3, 1, false, .str), (4, 1, false, .int)]) (.t 20) (.t 24))]) (.cond (.t 25) (.seq (g_ 1 [p_ 0 4 (.mv (.c (.bool false)))]) .ret) .skip))) (g_ 3 [p_ 0 15 (m_ 5), p_ 1 16 (.bin 0 0 (.t 15) (i_ 1)), p_ 2 5 (m_ 16)]))) [(0, [.can 0 [0, 1, 5]]), (1, [.can 0 [4]]), (2, [.can 0 []])])
theorem vb_l_rsame (p : A_l_rsame) (K : KC) (hpre : pre_l_rsame p) (hK : out_l_rsame p K = true) : (codeX (cfT nat_equalP) lp_rsame 600 bd_l_rsame (I_l_rsame p).1 (I_l_rsame p).2.1 (I_l_rsame p).2.2 (fun e S M nx => Nat.casesOn e (exB fun q : A_l_rsame => must (prB ((S, M, nx) = I_l_rsame q ∧ mu_l_rsame q < mu_l_rsame p)) (sp_l_rsame q K)) (fun e2 => K (Nat.succ e2) S M nx))) = true := by
 refine Eq.trans (b := (let z0 : Bool := (K 1 (.cons 4 (.bool false) .nil) .leaf 0); iP (p.i < (p.l1.length : Int)) (mP (0 ≤ p.i ∧ p.i < (p.l1.length : Int)) (allB fun x1 : PtR => iP (p.l1[p.i.toNat]? = some x1) (mP (0 ≤ p.i ∧ p.i < (p.l2.length : Int)) (allB fun x2 : PtR => iP (p.l2[p.i.toNat]? = some x2) (iP (x1.g = x2.g) (iP (x1.k = x2.k) (iP (x1.key = x2.key) (iP (x1.val = x2.val) (iP (x1.n = x2.n) (mP (InR 0 (p.i + (1 : Int))) (exB fun q1 : A_l_rsame => mP (((.cons 5 (.sy (.int 0 (p.i + (1 : Int)))) (.cons 1 (.sy (.imm p.h2 5 PtR p.l2 encP)) (.cons 0 (.sy (.imm p.h1 5 PtR p.l1 encP)) .nil))), .leaf, 0) = I_l_rsame q1 ∧ mu_l_rsame q1 < mu_l_rsame p) (sp_l_rsame q1 K))) z0) z0) z0) z0) z0) true)) true)) (K 2 .nil .leaf 0))) (by kernel_rfl) ?_
 obtain ⟨hK0, hKr0⟩ := must_ok hK
 have hK1 := hKr0
 dsimp only [pre_l_rsame] at hpre
 obtain ⟨g0, g1, g2, g3, g4⟩ := hpre
 refine iI (fun hc1 => ?_) (fun hc1 => ?_)
 refine mI (by first | omega | (constructor <;> omega)) ?_
 refine allB_mk (fun x1 => ?_)
 refine iI (fun hi2 => ?_) (fun _ => rfl)
 refine mI (by first | omega | (constructor <;> omega)) ?_
 refine allB_mk (fun x2 => ?_)
 refine iI (fun hi3 => ?_) (fun _ => rfl)
 refine iI (fun hc4 => ?_) (fun hc4 => ?_)
 refine iI (fun hc5 => ?_) (fun hc5 => ?_)
 refine iI (fun hc6 => ?_) (fun hc6 => ?_)
 refine iI (fun hc7 => ?_) (fun hc7 => ?_)
 refine iI (fun hc8 => ?_) (fun hc8 => ?_)
 refine mI (by simp only [InR]; omega) ?_
 exact bk_l_rsame (q := ⟨p.h1, p.l1, p.h2, p.l2, p.i + (1 : Int)⟩) (by dsimp only [mu_l_rsame]; omega) (by dsimp only [pre_l_rsame]; refine ⟨g0, by omega, by omega, g3, take_step (by omega) g4 hi2 hi3 ?_⟩; show x1 = x2; obtain ⟨⟩ := x1; obtain ⟨⟩ := x2; simp_all) hK rfl
 exact ifB_use (show ¬ p.l1 = p.l2 from (by intro e; rw [e] at hi2; have e2 := Option.some.inj (hi2.symm.trans hi3); subst e2; first | contradiction | omega | simp_all)) hK1
 exact ifB_use (show ¬ p.l1 = p.l2 from (by intro e; rw [e] at hi2; have e2 := Option.some.inj (hi2.symm.trans hi3); subst e2; first | contradiction | omega | simp_all)) hK1
 exact ifB_use (show ¬ p.l1 = p.l2 from (by intro e; rw [e] at hi2; have e2 := Option.some.inj (hi2.symm.trans hi3); subst e2; first | contradiction | omega | simp_all)) hK1
 exact ifB_use (show ¬ p.l1 = p.l2 from (by intro e; rw [e] at hi2; have e2 := Option.some.inj (hi2.symm.trans hi3); subst e2; first | contradiction | omega | simp_all)) hK1
 exact ifB_use (show ¬ p.l1 = p.l2 from (by intro e; rw [e] at hi2; have e2 := Option.some.inj (hi2.symm.trans hi3); subst e2; first | contradiction | omega | simp_all)) hK1
 exact ifB_use (show p.l1 = p.l2 from (by have e := take_end g4 (by omega) (by omega); simpa using e)) hK0
theorem lo_l_rsame : LpOk Tryd.prog 26 0 lp_rsame true 0 bd_l_rsame := by
 exact lp_of (lf := 600) ts_mix (cfT_ok nat_equalP_ok) (by rfl) I_l_rsame mu_l_rsame sp_l_rsame (fun b j x h => by cases h) (fun S M nx K h => by obtain ⟨p, h⟩ := exB_ok h; exact ⟨p, (mustP_ok h).1, (mustP_ok h).2⟩) (fun p K h => vb_l_rsame p K (mustP_ok h).1 (mustP_ok h).2)
structure A_rsame where
 h1 : Value
 l1 : List PtR
 h2 : Value
 l2 : List PtR
structure R_rsame where
 q : Prop
def po_rsame (p : A_rsame) (r : R_rsame) : Prop := r.q ↔ p.l1 = p.l2
noncomputable def I_rsame (p : A_rsame) : IE := ([.sy (.imm p.h1 5 PtR p.l1 encP), .sy (.imm p.h2 5 PtR p.l2 encP)], .leaf, 0)
noncomputable def out_rsame (p : A_rsame) (K : KE) : Bool := allB fun r : R_rsame => iP (po_rsame p r) (K (.sy (.bool r.q)) .leaf 0) true
def pre_rsame (p : A_rsame) : Prop := p.l1.length ≤ 1000000 ∧ p.l2.length ≤ 1000000
theorem fin_rsame {p : A_rsame} {K : KE} (hK : out_rsame p K = true) (r : R_rsame) (h : po_rsame p r) : K (.sy (.bool r.q)) .leaf 0 = true := ifB_use h (allB_ok hK r)
theorem vf_rsame (p : A_rsame) (K : KE) (hpre : pre_rsame p) (hK : out_rsame p K = true) : (funE 0 (cfT nat_equalP) lp_rsame 600 ft_rsame (I_rsame p).1 (I_rsame p).2.1 (I_rsame p).2.2 K) = true := by
 refine Eq.trans (b := (iP (¬ (p.l1.length : Int) = (p.l2.length : Int)) (K (.sy (.bool (false = true))) .leaf 0) (exB fun p1 : A_l_rsame => mP (((.cons 5 (.sy (.int 0 0)) (.cons 1 (.sy (.imm p.h2 5 PtR p.l2 encP)) (.cons 0 (.sy (.imm p.h1 5 PtR p.l1 encP)) .nil))), .leaf, 0) = I_l_rsame p1) (mP (pre_l_rsame p1) (must (iP (po_l_rsame p1) (K (.sy (.bool (true = true))) .leaf 0) true) (iP (po_l_rsame1 p1) (K (.sy (.bool (false = true))) .leaf 0) true)))))) (by kernel_rfl) ?_
 dsimp only [pre_rsame] at hpre
 obtain ⟨u1, u2⟩ := hpre
 refine iI (fun hc1 => ?_) (fun hc1 => ?_)
 exact fin_rsame hK ⟨false = true⟩ (by dsimp only [po_rsame] <;> (first | (simp; done) | (simp; assumption) | (simp; intro e; exact hc1 (by rw [e])) | simp_all))
 refine callP (⟨p.h1, p.l1, p.h2, p.l2, (0 : Int)⟩ : A_l_rsame) rfl (by (try dsimp only [pre_l_rsame]); refine ⟨by omega, by omega, by omega, by omega, rfl⟩) ?_
 refine must_mk ?_ ?_
 refine iI (p := p.l1 = p.l2) (fun hi2 => ?_) (fun _ => rfl)
 exact fin_rsame hK ⟨true = true⟩ (by dsimp only [po_rsame] <;> (first | (simp; done) | (simp; assumption) | (simp; intro e; exact hc1 (by rw [e])) | simp_all))
 refine iI (p := ¬ p.l1 = p.l2) (fun hi3 => ?_) (fun _ => rfl)
 exact fin_rsame hK ⟨false = true⟩ (by dsimp only [po_rsame] <;> (first | (simp; done) | (simp; assumption) | (simp; intro e; exact hc1 (by rw [e])) | simp_all))
noncomputable def nat_rsame := natC nat_equalP 0 (esOf I_rsame (spP pre_rsame out_rsame)) 63 [(0, 23), (1, 23)]
theorem nat_rsame_ok : NatsOk Tryd.prog nat_rsame := natC_ok (natE_said (f := 63) (k := 0) (lp := lp_rsame) (lf := 600) ts_mix (cfT_ok nat_equalP_ok) ft_rsame_ok (by rfl) (fun b j x h => (mem_step lo_l_rsame (fun h => (by cases h)) h)) fun p K h => vf_rsame p K (mustP_ok h).1 (mustP_ok h).2) nat_equalP_ok
def ft_sameOp : XF := .mk 66 (.one 4) (.aft (.seq (g_ 3 [e_ 0 2 (.box 52 (.t 0)), e_ 1 3 (.box 52 (.t 1)), p_ 2 4 (.mv (.c (.bool false)))]) (.seq (g_ 62 [p_ 0 5 (f_ 0 2), r_ 1 6 (l_ 5), p_ 2 7 (f_ 0 3), r_ 3 8 (l_ 7), p_ 4 9 (.bin 3 4 (.t 6) (.t 8)), p_ 5 10 (m_ 9), pg_ 6 11 10 true (f_ 1 2), rg_ 7 12 10 true (l_ 11), pg_ 8 13 10 true (f_ 1 3), rg_ 9 14 10 true (l_ 13), pg_ 10 15 10 true (.bin 3 4 (.t 12) (.t 14)), p_ 11 16 (.pick (.t 10) (.t 15) (.c (.bool false))), p_ 12 17 (m_ 16), pg_ 13 18 17 true (f_ 2 2), rg_ 14 19 17 true (l_ 18), pg_ 15 20 17 true (f_ 2 3), rg_ 16 21 17 true (l_ 20), pg_ 17 22 17 true (.bin 3 4 (.t 19) (.t 21)), p_ 18 23 (.pick (.t 17) (.t 22) (.c (.bool false))), p_ 19 24 (m_ 23), pg_ 20 25 24 true (f_ 3 2), rg_ 21 26 24 true (l_ 25), pg_ 22 27 24 true (f_ 3 3), rg_ 23 28 24 true (l_ 27), pg_ 24 29 24 true (.bin 3 4 (.t 26) (.t 28)), p_ 25 30 (.pick (.t 24) (.t 29) (.c (.bool false))), p_ 26 31 (m_ 30), pg_ 27 32 31 true (f_ 4 2), rg_ 28 33 31 true (l_ 32), pg_ 29 34 31 true (f_ 4 3), rg_ 30 35 31 true (l_ 34), pg_ 31 36 31 true (.bin 3 4 (.t 33) (.t 35)), p_ 32 37 (.pick (.t 31) (.t 36) (.c (.bool false))), p_ 33 38 (m_ 37), pg_ 34 39 38 true (f_ 5 2), rg_ 35 40 38 true (l_ 39), pg_ 36 41 38 true (f_ 5 3), rg_ 37 42 38 true (l_ 41), pg_ 38 43 38 true (.bin 3 4 (.t 40) (.t 42)), p_ 39 44 (.pick (.t 38) (.t 43) (.c (.bool false))), p_ 40 45 (m_ 44), pg_ 41 46 45 true (f_ 6 2), rg_ 42 47 45 true (l_ 46), pg_ 43 48 45 true (f_ 6 3), rg_ 44 49 45 true (l_ 48), pg_ 45 50 45 true (.bin 3 4 (.t 47) (.t 49)), p_ 46 51 (.pick (.t 45) (.t 50) (.c (.bool false))), p_ 47 52 (m_ 51), pg_ 48 53 52 true (f_ 7 2), rg_ 49 54 52 true (l_ 53), pg_ 50 55 52 true (f_ 7 3), rg_ 51 56 52 true (l_ 55), pg_ 52 57 52 true (.bin 3 4 (.t 54) (.t 56)), p_ 53 58 (.pick (.t 52) (.t 57) (.c (.bool false))), p_ 54 59 (m_ 58), pg_ 55 60 59 true (f_ 8 2), rg_ 56 61 59 true (l_ 60), pg_ 57 62 59 true (f_ 8 3), rg_ 58 63 59 true (l_ 62), cg_ 59 64 59 true 62 [.t 61, .t 63], p_ 60 65 (.pick (.t 59) (.t 64) (.c (.bool false))), p_ 61 4 (m_ 65)]) .ret)) [(0, [.up 4]), (1, [.up 4])])
theorem ft_sameOp_ok : chkF Tryd.prog 35 ft_sameOp = true := by kernel_rfl
structure A_sameOp where
 x : OpR
 y : OpR
structure R_sameOp where
 q : Prop
def po_sameOp (p : A_sameOp) (r : R_sameOp) : Prop := r.q ↔ opk p.x = opk p.y
noncomputable def I_sameOp (p : A_sameOp) : IE := ([.agg [.sy (.int 0 p.x.kind), .sy (.int 0 p.x.x), .sy (.int 0 p.x.y), .sy (.int 0 p.x.i), .sy (.int 0 p.x.at_), .sy (.int 0 p.x.mode), .sy (.int 3 p.x.mask), .sy (.int 1 p.x.grp), .sy (.imm p.x.hp 5 PtR p.x.ps encP)], .agg [.sy (.int 0 p.y.kind), .sy (.int 0 p.y.x), .sy (.int 0 p.y.y), .sy (.int 0 p.y.i), .sy (.int 0 p.y.at_), .sy (.int 0 p.y.mode), .sy (.int 3 p.y.mask), .sy (.int 1 p.y.grp), .sy (.imm p.y.hp 5 PtR p.y.ps encP)]], .leaf, 0)
noncomputable def out_sameOp (p : A_sameOp) (K : KE) : Bool := allB fun r : R_sameOp => iP (po_sameOp p r) (K (.sy (.bool r.q)) .leaf 0) true
def pre_sameOp (p : A_sameOp) : Prop := p.x.ps.length ≤ 1000000 ∧ p.y.ps.length ≤ 1000000
theorem fin_sameOp {p : A_sameOp} {K : KE} (hK : out_sameOp p K = true) (r : R_sameOp) (h : po_sameOp p r) : K (.sy (.bool r.q)) .leaf 0 = true := ifB_use h (allB_ok hK r)
theorem vf_sameOp (p : A_sameOp) (K : KE) (hpre : pre_sameOp p) (hK : out_sameOp p K = true) : (funE 0 (cfT nat_rsame) noLp 600 ft_sameOp (I_sameOp p).1 (I_sameOp p).2.1 (I_sameOp p).2.2 K) = true := by
 refine Eq.trans (b := (let z0 : Bool := (K (.sy (.bool (false = true))) .leaf 0); iP (p.x.kind = p.y.kind) (iP (p.x.x = p.y.x) (iP (p.x.y = p.y.y) (iP (p.x.i = p.y.i) (iP (p.x.at_ = p.y.at_) (iP (p.x.mode = p.y.mode) (iP (p.x.mask = p.y.mask) (iP (p.x.grp = p.y.grp) (useC (([.sy (.imm p.x.hp 5 PtR p.x.ps encP), .sy (.imm p.y.hp 5 PtR p.y.ps encP)], .leaf, 0)) I_equalP pre_equalP po_equalP fun p1 r1 => K (.sy (.bool r1.q)) .leaf 0) z0) z0) z0) z0) z0) z0) z0) z0)) (by kernel_rfl) ?_
 dsimp only [pre_sameOp] at hpre
 obtain ⟨u1, u2⟩ := hpre
 refine iI (fun hc1 => ?_) (fun hc1 => ?_)
 refine iI (fun hc2 => ?_) (fun hc2 => ?_)
 refine iI (fun hc3 => ?_) (fun hc3 => ?_)
 refine iI (fun hc4 => ?_) (fun hc4 => ?_)
 refine iI (fun hc5 => ?_) (fun hc5 => ?_)
 refine iI (fun hc6 => ?_) (fun hc6 => ?_)
 refine iI (fun hc7 => ?_) (fun hc7 => ?_)
 refine iI (fun hc8 => ?_) (fun hc8 => ?_)
 refine callPR (⟨p.x.hp, p.x.ps, p.y.hp, p.y.ps⟩ : A_equalP) rfl (by (try dsimp only [pre_equalP]); omega) fun r1 hi9 => ?_
 dsimp only [po_equalP] at hi9
 exact fin_sameOp hK ⟨r1.q⟩ (by dsimp only [po_sameOp] <;> (simp only [opk, Prod.mk.injEq]; simp_all))
 exact fin_sameOp hK ⟨false = true⟩ (by dsimp only [po_sameOp] <;> (simp only [opk, Prod.mk.injEq]; simp_all))
 exact fin_sameOp hK ⟨false = true⟩ (by dsimp only [po_sameOp] <;> (simp only [opk, Prod.mk.injEq]; simp_all))
 exact fin_sameOp hK ⟨false = true⟩ (by dsimp only [po_sameOp] <;> (simp only [opk, Prod.mk.injEq]; simp_all))
 exact fin_sameOp hK ⟨false = true⟩ (by dsimp only [po_sameOp] <;> (simp only [opk, Prod.mk.injEq]; simp_all))
 exact fin_sameOp hK ⟨false = true⟩ (by dsimp only [po_sameOp] <;> (simp only [opk, Prod.mk.injEq]; simp_all))
 exact fin_sameOp hK ⟨false = true⟩ (by dsimp only [po_sameOp] <;> (simp only [opk, Prod.mk.injEq]; simp_all))
 exact fin_sameOp hK ⟨false = true⟩ (by dsimp only [po_sameOp] <;> (simp only [opk, Prod.mk.injEq]; simp_all))
 exact fin_sameOp hK ⟨false = true⟩ (by dsimp only [po_sameOp] <;> (simp only [opk, Prod.mk.injEq]; simp_all))
noncomputable def nat_sameOp := natC nat_rsame 0 (esOf I_sameOp (spP pre_sameOp out_sameOp)) 35 [(0, 15), (1, 15)]
theorem nat_sameOp_ok : NatsOk Tryd.prog nat_sameOp := natC_ok (natE_pl (f := 35) (k := 0) (cfT_ok nat_rsame_ok) ft_sameOp_ok (by rfl) (by rfl) vf_sameOp) nat_rsame_ok
def ft_rsameOp : XF := .mk 66 (.one 4) (.aft (.seq (g_ 3 [e_ 0 2 (.box 69 (.t 0)), e_ 1 3 (.box 69 (.t 1)), p_ 2 4 (.mv (.c (.bool false)))]) (.seq (g_ 62 [p_ 0 5 (f_ 0 2), r_ 1 6 (l_ 5), p_ 2 7 (f_ 0 3), r_ 3 8 (l_ 7), p_ 4 9 (.bin 3 4 (.t 6) (.t 8)), p_ 5 10 (m_ 9), pg_ 6 11 10 true (f_ 1 2), rg_ 7 12 10 true (l_ 11), pg_ 8 13 10 true (f_ 1 3), rg_ 9 14 10 true (l_ 13), pg_ 10 15 10 true (.bin 3 4 (.t 12) (.t 14)), p_ 11 16 (.pick (.t 10) (.t 15) (.c (.bool false))), p_ 12 17 (m_ 16), pg_ 13 18 17 true (f_ 2 2), rg_ 14 19 17 true (l_ 18), pg_ 15 20 17 true (f_ 2 3), rg_ 16 21 17 true (l_ 20), pg_ 17 22 17 true (.bin 3 4 (.t 19) (.t 21)), p_ 18 23 (.pick (.t 17) (.t 22) (.c (.bool false))), p_ 19 24 (m_ 23), pg_ 20 25 24 true (f_ 3 2), rg_ 21 26 24 true (l_ 25), pg_ 22 27 24 true (f_ 3 3), rg_ 23 28 24 true (l_ 27), pg_ 24 29 24 true (.bin 3 4 (.t 26) (.t 28)), p_ 25 30 (.pick (.t 24) (.t 29) (.c (.bool false))), p_ 26 31 (m_ 30), pg_ 27 32 31 true (f_ 4 2), rg_ 28 33 31 true (l_ 32), pg_ 29 34 31 true (f_ 4 3), rg_ 30 35 31 true (l_ 34), pg_ 31 36 31 true (.bin 3 4 (.t 33) (.t 35)), p_ 32 37 (.pick (.t 31) (.t 36) (.c (.bool false))), p_ 33 38 (m_ 37), pg_ 34 39 38 true (f_ 5 2), rg_ 35 40 38 true (l_ 39), pg_ 36 41 38 true (f_ 5 3), rg_ 37 42 38 true (l_ 41), pg_ 38 43 38 true (.bin 3 4 (.t 40) (.t 42)), p_ 39 44 (.pick (.t 38) (.t 43) (.c (.bool false))), p_ 40 45 (m_ 44), pg_ 41 46 45 true (f_ 6 2), rg_ 42 47 45 true (l_ 46), pg_ 43 48 45 true (f_ 6 3), rg_ 44 49 45 true (l_ 48), pg_ 45 50 45 true (.bin 3 4 (.t 47) (.t 49)), p_ 46 51 (.pick (.t 45) (.t 50) (.c (.bool false))), p_ 47 52 (m_ 51), pg_ 48 53 52 true (f_ 7 2), rg_ 49 54 52 true (l_ 53), pg_ 50 55 52 true (f_ 7 3), rg_ 51 56 52 true (l_ 55), pg_ 52 57 52 true (.bin 3 4 (.t 54) (.t 56)), p_ 53 58 (.pick (.t 52) (.t 57) (.c (.bool false))), p_ 54 59 (m_ 58), pg_ 55 60 59 true (f_ 8 2), rg_ 56 61 59 true (l_ 60), pg_ 57 62 59 true (f_ 8 3), rg_ 58 63 59 true (l_ 62), cg_ 59 64 59 true 63 [.t 61, .t 63], p_ 60 65 (.pick (.t 59) (.t 64) (.c (.bool false))), p_ 61 4 (m_ 65)]) .ret)) [(0, [.up 4]), (1, [.up 4])])
theorem ft_rsameOp_ok : chkF Tryd.prog 36 ft_rsameOp = true := by kernel_rfl
structure A_rsameOp where
 x : OpR
 y : OpR
structure R_rsameOp where
 q : Prop
def po_rsameOp (p : A_rsameOp) (r : R_rsameOp) : Prop := r.q ↔ opk p.x = opk p.y
noncomputable def I_rsameOp (p : A_rsameOp) : IE := ([.agg [.sy (.int 0 p.x.kind), .sy (.int 0 p.x.x), .sy (.int 0 p.x.y), .sy (.int 0 p.x.i), .sy (.int 0 p.x.at_), .sy (.int 0 p.x.mode), .sy (.int 3 p.x.mask), .sy (.int 1 p.x.grp), .sy (.imm p.x.hp 5 PtR p.x.ps encP)], .agg [.sy (.int 0 p.y.kind), .sy (.int 0 p.y.x), .sy (.int 0 p.y.y), .sy (.int 0 p.y.i), .sy (.int 0 p.y.at_), .sy (.int 0 p.y.mode), .sy (.int 3 p.y.mask), .sy (.int 1 p.y.grp), .sy (.imm p.y.hp 5 PtR p.y.ps encP)]], .leaf, 0)
noncomputable def out_rsameOp (p : A_rsameOp) (K : KE) : Bool := allB fun r : R_rsameOp => iP (po_rsameOp p r) (K (.sy (.bool r.q)) .leaf 0) true
def pre_rsameOp (p : A_rsameOp) : Prop := p.x.ps.length ≤ 1000000 ∧ p.y.ps.length ≤ 1000000
theorem fin_rsameOp {p : A_rsameOp} {K : KE} (hK : out_rsameOp p K = true) (r : R_rsameOp) (h : po_rsameOp p r) : K (.sy (.bool r.q)) .leaf 0 = true := ifB_use h (allB_ok hK r)
theorem vf_rsameOp (p : A_rsameOp) (K : KE) (hpre : pre_rsameOp p) (hK : out_rsameOp p K = true) : (funE 0 (cfT nat_sameOp) noLp 600 ft_rsameOp (I_rsameOp p).1 (I_rsameOp p).2.1 (I_rsameOp p).2.2 K) = true := by
 refine Eq.trans (b := (let z0 : Bool := (K (.sy (.bool (false = true))) .leaf 0); iP (p.x.kind = p.y.kind) (iP (p.x.x = p.y.x) (iP (p.x.y = p.y.y) (iP (p.x.i = p.y.i) (iP (p.x.at_ = p.y.at_) (iP (p.x.mode = p.y.mode) (iP (p.x.mask = p.y.mask) (iP (p.x.grp = p.y.grp) (useC (([.sy (.imm p.x.hp 5 PtR p.x.ps encP), .sy (.imm p.y.hp 5 PtR p.y.ps encP)], .leaf, 0)) I_rsame pre_rsame po_rsame fun p1 r1 => K (.sy (.bool r1.q)) .leaf 0) z0) z0) z0) z0) z0) z0) z0) z0)) (by kernel_rfl) ?_
 dsimp only [pre_rsameOp] at hpre
 obtain ⟨u1, u2⟩ := hpre
 refine iI (fun hc1 => ?_) (fun hc1 => ?_)
 refine iI (fun hc2 => ?_) (fun hc2 => ?_)
 refine iI (fun hc3 => ?_) (fun hc3 => ?_)
 refine iI (fun hc4 => ?_) (fun hc4 => ?_)
 refine iI (fun hc5 => ?_) (fun hc5 => ?_)
 refine iI (fun hc6 => ?_) (fun hc6 => ?_)
 refine iI (fun hc7 => ?_) (fun hc7 => ?_)
 refine iI (fun hc8 => ?_) (fun hc8 => ?_)
 refine callPR (⟨p.x.hp, p.x.ps, p.y.hp, p.y.ps⟩ : A_rsame) rfl (by (try dsimp only [pre_rsame]); omega) fun r1 hi9 => ?_
 dsimp only [po_rsame] at hi9
 exact fin_rsameOp hK ⟨r1.q⟩ (by dsimp only [po_rsameOp] <;> (simp only [opk, Prod.mk.injEq]; simp_all))
 exact fin_rsameOp hK ⟨false = true⟩ (by dsimp only [po_rsameOp] <;> (simp only [opk, Prod.mk.injEq]; simp_all))
 exact fin_rsameOp hK ⟨false = true⟩ (by dsimp only [po_rsameOp] <;> (simp only [opk, Prod.mk.injEq]; simp_all))
 exact fin_rsameOp hK ⟨false = true⟩ (by dsimp only [po_rsameOp] <;> (simp only [opk, Prod.mk.injEq]; simp_all))
 exact fin_rsameOp hK ⟨false = true⟩ (by dsimp only [po_rsameOp] <;> (simp only [opk, Prod.mk.injEq]; simp_all))
 exact fin_rsameOp hK ⟨false = true⟩ (by dsimp only [po_rsameOp] <;> (simp only [opk, Prod.mk.injEq]; simp_all))
 exact fin_rsameOp hK ⟨false = true⟩ (by dsimp only [po_rsameOp] <;> (simp only [opk, Prod.mk.injEq]; simp_all))
 exact fin_rsameOp hK ⟨false = true⟩ (by dsimp only [po_rsameOp] <;> (simp only [opk, Prod.mk.injEq]; simp_all))
 exact fin_rsameOp hK ⟨false = true⟩ (by dsimp only [po_rsameOp] <;> (simp only [opk, Prod.mk.injEq]; simp_all))
noncomputable def nat_rsameOp := natC nat_sameOp 0 (esOf I_rsameOp (spP pre_rsameOp out_rsameOp)) 36 [(0, 15), (1, 15)]
theorem nat_rsameOp_ok : NatsOk Tryd.prog nat_rsameOp := natC_ok (natE_pl (f := 36) (k := 0) (cfT_ok nat_sameOp_ok) ft_rsameOp_ok (by rfl) (by rfl) vf_rsameOp) nat_sameOp_ok
def ft_eqf : XF := .mk 32 (.one 6) (.aft (.seq (g_ 1 [p_ 0 6 (.mv (.c (.bool false)))]) (.seq (.seq (g_ 5 [p_ 0 10 (m_ 0), p_ 1 11 (k_ 10), p_ 2 12 (m_ 1), p_ 3 13 (k_ 12), p_ 4 14 (.bin 3 5 (.t 11) (.t 13))]) (.cond (.t 14) (.seq (g_ 1 [p_ 0 6 (.mv (.c (.bool false)))]) .ret) .skip)) (.seq (.seq (g_ 3 [p_ 0 15 (m_ 0), p_ 1 16 (k_ 15), p_ 2 17 (.mv (i_ 0))]) (.block 2 (.pre [.can 0 [1, 2, 15, 16, 17], .up 16, .up 17, .can 0 [1, 2, 15, 16, 17]] (.inv 0 (.aft (.seq (g_ 1 [p_ 0 18 (.bin 3 0 (.t 17) (.t 16))]) (.seq (.cond (.t 18) .skip (.exit 2)) (.seq (.block 3 (.seq (g_ 6 [p_ 0 19 (m_ 17), p_ 1 20 (.ixs 9 (.t 15) (.t 17)), r_ 2 21 (.ld true 9 (.t 20)), e_ 3 8 (.al 52 [.int 0 (.ofNat 0), .int 0 (.ofNat 0), .int 0 (.ofNat 0), .int 0 (.ofNat 0), .int 0 (.ofNat 0), .int 0 (.ofNat 0), .int 3 (.ofNat 0), .int 1 (.ofNat 0), .nilS]), p_ 4 7 (m_ 19), e0_ 5 (.st 9 (.t 8) (.t 21))]) (.seq (g_ 6 [p_ 0 22 (m_ 1), p_ 1 23 (m_ 7), p_ 2 24 (.ixs 9 (.t 22) (.t 23)), r_ 3 25 (.ld true 9 (.t 24)), e_ 4 9 (.al 52 [.int 0 (.ofNat 0), .int 0 (.ofNat 0), .int 0 (.ofNat 0), .int 0 (.ofNat 0), .int 0 (.ofNat 0), .int 0 (.ofNat 0), .int 3 (.ofNat 0), .int 1 (.ofNat 0), .nilS]), e0_ 5 (.st 9 (.t 9) (.t 25))]) (.seq (g_ 5 [p_ 0 26 (m_ 2), r_ 1 27 (.ld true 9 (.t 8)), r_ 2 28 (.ld true 9 (.t 9)), .k 3 (some 29) none 26 35 [.t 27, .t 28], p_ 4 30 (.un 0 (.t 29))]) (.cond (.t 30) (.seq (g_ 1 [p_ 0 6 (.mv (.c (.bool false)))]) .ret) .skip))))) (g_ 2 [p_ 0 31 (.bin 0 0 (.t 17) (i_ 1)), p_ 1 17 (m_ 31)])))) [(0, [.can 0 [1, 2, 15, 16, 17]]), (1, [.can 0 [6]]), (2, [.can 0 []])]))))) (.seq (g_ 1 [p_ 0 6 (.mv (.c (.bool true)))]) .ret)))) [(0, [.up 6]), (1, [.up 6])])
theorem ft_eqf_ok : chkF Tryd.prog 34 ft_eqf = true := by kernel_rfl
structure A_l_eqf where
 h1 : Value
 l1 : List OpR
 h2 : Value
 l2 : List OpR
 i : Int
def po_l_eqf (p : A_l_eqf) : Prop := p.l1.map opk = p.l2.map opk
def po_l_eqf1 (p : A_l_eqf) : Prop := ¬ p.l1.map opk = p.l2.map opk
noncomputable def I_l_eqf (p : A_l_eqf) : IL := ((.cons 17 (.sy (.int 0 p.i)) (.cons 16 (.sy (.int 0 (p.l1.length : Int))) (.cons 15 (.sy (.imm p.h1 9 OpR p.l1 encO)) (.cons 2 (.fn 35 []) (.cons 1 (.sy (.imm p.h2 9 OpR p.l2 encO)) .nil))))), .leaf, 0)
noncomputable def out_l_eqf (p : A_l_eqf) (K : KC) : Bool := must (iP (po_l_eqf p) (K 2 .nil .leaf 0) true) (iP (po_l_eqf1 p) (K 1 (.cons 6 (.bool false) .nil) .leaf 0) true)
def pre_l_eqf (p : A_l_eqf) : Prop := p.l1.length = p.l2.length ∧ 0 ≤ p.i ∧ p.i ≤ (p.l1.length : Int) ∧ okO p.l1 ∧ okO p.l2 ∧ (p.l1.take p.i.toNat).map opk = (p.l2.take p.i.toNat).map opk
noncomputable def sp_l_eqf (p : A_l_eqf) (K : KC) : Bool := must (prB (pre_l_eqf p)) (out_l_eqf p K)
noncomputable def lp_eqf : LpF := fun j S M nx K => (Bool.rec (false) (exB fun p : A_l_eqf => must (prB ((S, M, nx) = I_l_eqf p)) (sp_l_eqf p K)) (Nat.beq j 0))
def mu_l_eqf (p : A_l_eqf) : Nat := ((p.l1.length : Int) - p.i).toNat
theorem bk_l_eqf {p q : A_l_eqf} {K : KC} {s : IL} (hm : mu_l_eqf q < mu_l_eqf p) (hp : pre_l_eqf q) (hK : out_l_eqf q K = true) (e : s = I_l_eqf q) : (exB fun q => mP (s = I_l_eqf q ∧ mu_l_eqf q < mu_l_eqf p) (sp_l_eqf q K)) = true := exB_mk q (mustP ⟨e, hm⟩ (mustP hp hK))
def bd_l_eqf : XC := (.aft (.seq (g_ 1 [p_ 0 18 (.bin 3 0 (.t 17) (.t 16))]) (.seq (.cond (.t 18) .skip (.exit 2)) (.seq (.block 3 (.seq (g_ 6 [p_ 0 19 (m_ 17), p_ 1 20 (.ixs 9 (.t 15) (.t 17)), r_ 2 21 (.ld true 9 (.t 20)), e_ 3 8 (.al 52 [.int 0 (.ofNat 0), .int 0 (.ofNat 0), .int 0 (.ofNat 0), .int 0 (.ofNat 0), .int 0 (.ofNat 0), .int 0 (.ofNat 0), .int 3 (.ofNat 0), .int 1 (.ofNat 0), .nilS]), p_ 4 7 (m_ 19), e0_ 5 (.st 9 (.t 8) (.t 21))]) (.seq (g_ 6 [p_ 0 22 (m_ 1), p_ 1 23 (m_ 7), p_ 2 24 (.ixs 9 (.t 22) (.t 23)), r_ 3 25 (.ld true 9 (.t 24)), e_ 4 9 (.al 52 [.int 0 (.ofNat 0), .int 0 (.ofNat 0), .int 0 (.ofNat 0), .int 0 (.ofNat 0), .int 0 (.ofNat 0), .int 0 (.ofNat 0), .int 3 (.ofNat 0), .int 1 (.ofNat 0), .nilS]), e0_ 5 (.st 9 (.t 9) (.t 25))]) (.seq (g_ 5 [p_ 0 26 (m_ 2), r_ 1 27 (.ld true 9 (.t 8)), r_ 2 28 (.ld true 9 (.t 9)), .k 3 (some 29) none 26 35 [.t 27, .t 28], p_ 4 30 (.un 0 (.t 29))]) (.cond (.t 30) (.seq (g_ 1 [p_ 0 6 (.mv (.c (.bool false)))]) .ret) .skip))))) (g_ 2 [p_ 0 31 (.bin 0 0 (.t 17) (i_ 1)), p_ 1 17 (m_ 31)])))) [(0, [.can 0 [1, 2, 15, 16, 17]]), (1, [.can 0 [6]]), (2, [.can 0 []])])
theorem vb_l_eqf (p : A_l_eqf) (K : KC) (hpre : pre_l_eqf p) (hK : out_l_eqf p K = true) : (codeX (cfT nat_rsameOp) lp_eqf 600 bd_l_eqf (I_l_eqf p).1 (I_l_eqf p).2.1 (I_l_eqf p).2.2 (fun e S M nx => Nat.casesOn e (exB fun q : A_l_eqf => must (prB ((S, M, nx) = I_l_eqf q ∧ mu_l_eqf q < mu_l_eqf p)) (sp_l_eqf q K)) (fun e2 => K (Nat.succ e2) S M nx))) = true := by
 refine Eq.trans (b := (iP (p.i < (p.l1.length : Int)) (mP (0 ≤ p.i ∧ p.i < (p.l1.length : Int)) (allB fun x1 : OpR => iP (p.l1[p.i.toNat]? = some x1) (mP (0 ≤ p.i ∧ p.i < (p.l2.length : Int)) (allB fun x2 : OpR => iP (p.l2[p.i.toNat]? = some x2) (useC (([.agg [.sy (.int 0 x1.kind), .sy (.int 0 x1.x), .sy (.int 0 x1.y), .sy (.int 0 x1.i), .sy (.int 0 x1.at_), .sy (.int 0 x1.mode), .sy (.int 3 x1.mask), .sy (.int 1 x1.grp), .sy (.imm x1.hp 5 PtR x1.ps encP)], .agg [.sy (.int 0 x2.kind), .sy (.int 0 x2.x), .sy (.int 0 x2.y), .sy (.int 0 x2.i), .sy (.int 0 x2.at_), .sy (.int 0 x2.mode), .sy (.int 3 x2.mask), .sy (.int 1 x2.grp), .sy (.imm x2.hp 5 PtR x2.ps encP)]], .leaf, 0)) I_sameOp pre_sameOp po_sameOp fun p1 r1 => iP (¬ r1.q) (K 1 (.cons 6 (.bool false) .nil) .leaf 0) (mP (InR 0 (p.i + (1 : Int))) (exB fun q1 : A_l_eqf => mP (((.cons 17 (.sy (.int 0 (p.i + (1 : Int)))) (.cons 16 (.sy (.int 0 (p.l1.length : Int))) (.cons 15 (.sy (.imm p.h1 9 OpR p.l1 encO)) (.cons 2 (.fn 35 []) (.cons 1 (.sy (.imm p.h2 9 OpR p.l2 encO)) .nil))))), .leaf, 0) = I_l_eqf q1 ∧ mu_l_eqf q1 < mu_l_eqf p) (sp_l_eqf q1 K)))) true)) true)) (K 2 .nil .leaf 0))) (by kernel_rfl) ?_
 obtain ⟨hK0, hKr0⟩ := must_ok hK
 have hK1 := hKr0
 dsimp only [pre_l_eqf] at hpre
 obtain ⟨g0, g1, g2, g3, g4, g5⟩ := hpre
 have g8 := g3.1
 refine iI (fun hc1 => ?_) (fun hc1 => ?_)
 refine mI (by first | omega | (constructor <;> omega)) ?_
 refine allB_mk (fun x1 => ?_)
 refine iI (fun hi2 => ?_) (fun _ => rfl)
 first | have hm_x1 := g3.2 _ x1 (by assumption) | have hm_x1 := g4.2 _ x1 (by assumption)
 refine mI (by first | omega | (constructor <;> omega)) ?_
 refine allB_mk (fun x2 => ?_)
 refine iI (fun hi3 => ?_) (fun _ => rfl)
 first | have hm_x2 := g3.2 _ x2 (by assumption) | have hm_x2 := g4.2 _ x2 (by assumption)
 refine callPR (⟨x1, x2⟩ : A_sameOp) rfl (by (try dsimp only [pre_sameOp]); refine ⟨?_, ?_⟩ <;> first | omega | (rw [hi3]; omega)) fun r1 hi4 => ?_
 dsimp only [po_sameOp] at hi4
 refine iI (fun hc5 => ?_) (fun hc5 => ?_)
 exact ifB_use (show ¬ p.l1.map opk = p.l2.map opk from (by exact take_no hi2 hi3 (fun e => by simp_all))) hK1
 refine mI (by simp only [InR]; omega) ?_
 exact bk_l_eqf (q := ⟨p.h1, p.l1, p.h2, p.l2, p.i + (1 : Int)⟩) (by dsimp only [mu_l_eqf]; omega) (by dsimp only [pre_l_eqf]; refine ⟨g0, by omega, by omega, g3, g4, take_step (by omega) g5 hi2 hi3 (by simp_all)⟩) hK rfl
 exact ifB_use (show p.l1.map opk = p.l2.map opk from (by exact take_end g5 (by omega) (by omega))) hK0
theorem lo_l_eqf : LpOk Tryd.prog 32 0 lp_eqf true 0 bd_l_eqf := by
 exact lp_of (lf := 600) ts_mix (cfT_ok nat_rsameOp_ok) (by rfl) I_l_eqf mu_l_eqf sp_l_eqf (fun b j x h => by cases h) (fun S M nx K h => by obtain ⟨p, h⟩ := exB_ok h; exact ⟨p, (mustP_ok h).1, (mustP_ok h).2⟩) (fun p K h => vb_l_eqf p K (mustP_ok h).1 (mustP_ok h).2)
structure A_eqf where
 h1 : Value
 l1 : List OpR
 h2 : Value
 l2 : List OpR
structure R_eqf where
 q : Prop
def po_eqf (p : A_eqf) (r : R_eqf) : Prop := r.q ↔ p.l1.map opk = p.l2.map opk
noncomputable def I_eqf (p : A_eqf) : IE := ([.sy (.imm p.h1 9 OpR p.l1 encO), .sy (.imm p.h2 9 OpR p.l2 encO), .fn 35 []], .leaf, 0)
noncomputable def out_eqf (p : A_eqf) (K : KE) : Bool := allB fun r : R_eqf => iP (po_eqf p r) (K (.sy (.bool r.q)) .leaf 0) true
def pre_eqf (p : A_eqf) : Prop := okO p.l1 ∧ okO p.l2
theorem fin_eqf {p : A_eqf} {K : KE} (hK : out_eqf p K = true) (r : R_eqf) (h : po_eqf p r) : K (.sy (.bool r.q)) .leaf 0 = true := ifB_use h (allB_ok hK r)
theorem vf_eqf (p : A_eqf) (K : KE) (hpre : pre_eqf p) (hK : out_eqf p K = true) : (funE 0 (cfT nat_rsameOp) lp_eqf 600 ft_eqf (I_eqf p).1 (I_eqf p).2.1 (I_eqf p).2.2 K) = true := by
 refine Eq.trans (b := (iP (¬ (p.l1.length : Int) = (p.l2.length : Int)) (K (.sy (.bool (false = true))) .leaf 0) (exB fun p1 : A_l_eqf => mP (((.cons 17 (.sy (.int 0 0)) (.cons 16 (.sy (.int 0 (p.l1.length : Int))) (.cons 15 (.sy (.imm p.h1 9 OpR p.l1 encO)) (.cons 2 (.fn 35 []) (.cons 1 (.sy (.imm p.h2 9 OpR p.l2 encO)) .nil))))), .leaf, 0) = I_l_eqf p1) (mP (pre_l_eqf p1) (must (iP (po_l_eqf p1) (K (.sy (.bool (true = true))) .leaf 0) true) (iP (po_l_eqf1 p1) (K (.sy (.bool (false = true))) .leaf 0) true)))))) (by kernel_rfl) ?_
 dsimp only [pre_eqf] at hpre
 obtain ⟨u1, u2⟩ := hpre
 refine iI (fun hc1 => ?_) (fun hc1 => ?_)
 exact fin_eqf hK ⟨false = true⟩ (by dsimp only [po_eqf] <;> (first | (simp; done) | (simp; assumption) | (simp; intro e; exact hc1 (by have := congrArg List.length e; simp at this; omega)) | simp_all))
 refine callP (⟨p.h1, p.l1, p.h2, p.l2, (0 : Int)⟩ : A_l_eqf) rfl (by (try dsimp only [pre_l_eqf]); refine ⟨by omega, by omega, by omega, u1, u2, rfl⟩) ?_
 refine must_mk ?_ ?_
 refine iI (p := p.l1.map opk = p.l2.map opk) (fun hi2 => ?_) (fun _ => rfl)
 exact fin_eqf hK ⟨true = true⟩ (by dsimp only [po_eqf] <;> (first | (simp; done) | (simp; assumption) | (simp; intro e; exact hc1 (by have := congrArg List.length e; simp at this; omega)) | simp_all))
 refine iI (p := ¬ p.l1.map opk = p.l2.map opk) (fun hi3 => ?_) (fun _ => rfl)
 exact fin_eqf hK ⟨false = true⟩ (by dsimp only [po_eqf] <;> (first | (simp; done) | (simp; assumption) | (simp; intro e; exact hc1 (by have := congrArg List.length e; simp at this; omega)) | simp_all))
noncomputable def nat_eqf := natC nat_rsameOp 0 (esOf I_eqf (spP pre_eqf out_eqf)) 34 [(0, 23), (1, 23)]
theorem nat_eqf_ok : NatsOk Tryd.prog nat_eqf := natC_ok (natE_said (f := 34) (k := 0) (lp := lp_eqf) (lf := 600) ts_mix (cfT_ok nat_rsameOp_ok) ft_eqf_ok (by rfl) (fun b j x h => (mem_step lo_l_eqf (fun h => (by cases h)) h)) fun p K h => vf_eqf p K (mustP_ok h).1 (mustP_ok h).2) nat_rsameOp_ok
def ft_same13 : XF := .mk 17 (.one 4) (.aft (.seq (g_ 3 [e_ 0 2 (.box 39 (.t 0)), e_ 1 3 (.box 39 (.t 1)), p_ 2 4 (.mv (.c (.bool false)))]) (.seq (g_ 13 [p_ 0 5 (f_ 0 2), r_ 1 6 (.ld true 8 (.t 5)), p_ 2 7 (f_ 0 3), r_ 3 8 (.ld true 8 (.t 7)), c_ 4 9 33 [.t 6, .t 8], p_ 5 10 (m_ 9), pg_ 6 11 10 true (f_ 8 2), rg_ 7 12 10 true (l_ 11), pg_ 8 13 10 true (f_ 8 3), rg_ 9 14 10 true (l_ 13), cg_ 10 15 10 true 34 [.t 12, .t 14, .f 35], p_ 11 16 (.pick (.t 10) (.t 15) (.c (.bool false))), p_ 12 4 (m_ 16)]) .ret)) [(0, [.up 4]), (1, [.up 4])])
theorem ft_same13_ok : chkF Tryd.prog 13 ft_same13 = true := by kernel_rfl
structure A_same13 where
 x : ScR
 y : ScR
structure R_same13 where
 q : Prop
def po_same13 (p : A_same13) (r : R_same13) : Prop := r.q ↔ sck p.x = sck p.y
noncomputable def I_same13 (p : A_same13) : IE := ([.agg [.sy (.imm p.x.hg 3 GrR p.x.gs encG), .sy (.int 0 p.x.clients), .sy (.int 0 p.x.window), .sy (.int 0 p.x.deadline), .sy (.int 0 p.x.pace), .sy (.int 0 p.x.again), .sy (.int 0 p.x.bag), .sy (.int 4 p.x.first), .sy (.imm p.x.ho 9 OpR p.x.os encO)], .agg [.sy (.imm p.y.hg 3 GrR p.y.gs encG), .sy (.int 0 p.y.clients), .sy (.int 0 p.y.window), .sy (.int 0 p.y.deadline), .sy (.int 0 p.y.pace), .sy (.int 0 p.y.again), .sy (.int 0 p.y.bag), .sy (.int 4 p.y.first), .sy (.imm p.y.ho 9 OpR p.y.os encO)]], .leaf, 0)
noncomputable def out_same13 (p : A_same13) (K : KE) : Bool := allB fun r : R_same13 => iP (po_same13 p r) (K (.sy (.bool r.q)) .leaf 0) true
def pre_same13 (p : A_same13) : Prop := okO p.x.os ∧ okO p.y.os ∧ p.x.gs.length ≤ 10 ∧ p.y.gs.length ≤ 10
theorem fin_same13 {p : A_same13} {K : KE} (hK : out_same13 p K = true) (r : R_same13) (h : po_same13 p r) : K (.sy (.bool r.q)) .leaf 0 = true := ifB_use h (allB_ok hK r)
theorem vf_same13 (p : A_same13) (K : KE) (hpre : pre_same13 p) (hK : out_same13 p K = true) : (funE 0 (cfT nat_eqf) noLp 600 ft_same13 (I_same13 p).1 (I_same13 p).2.1 (I_same13 p).2.2 K) = true := by
 refine Eq.trans (b := (let z0 : Bool := (K (.sy (.bool (false = true))) .leaf 0); useC (([.sy (.imm p.x.hg 3 GrR p.x.gs encG), .sy (.imm p.y.hg 3 GrR p.y.gs encG)], .leaf, 0)) I_equalG pre_equalG po_equalG fun p1 r1 => iP (r1.q) (iP (p.x.clients = p.y.clients) (iP (p.x.window = p.y.window) (iP (p.x.deadline = p.y.deadline) (iP (p.x.pace = p.y.pace) (iP (p.x.again = p.y.again) (iP (p.x.bag = p.y.bag) (iP (p.x.first = p.y.first) (useC (([.sy (.imm p.x.ho 9 OpR p.x.os encO), .sy (.imm p.y.ho 9 OpR p.y.os encO), .fn 35 []], .leaf, 0)) I_eqf pre_eqf po_eqf fun p2 r2 => K (.sy (.bool r2.q)) .leaf 0) z0) z0) z0) z0) z0) z0) z0) z0)) (by kernel_rfl) ?_
 dsimp only [pre_same13] at hpre
 obtain ⟨u1, u2, u3, u4⟩ := hpre
 refine callPR (⟨p.x.hg, p.x.gs, p.y.hg, p.y.gs⟩ : A_equalG) rfl (by (try dsimp only [pre_equalG]); omega) fun r1 hi1 => ?_
 dsimp only [po_equalG] at hi1
 refine iI (fun hc2 => ?_) (fun hc2 => ?_)
 refine iI (fun hc3 => ?_) (fun hc3 => ?_)
 refine iI (fun hc4 => ?_) (fun hc4 => ?_)
 refine iI (fun hc5 => ?_) (fun hc5 => ?_)
 refine iI (fun hc6 => ?_) (fun hc6 => ?_)
 refine iI (fun hc7 => ?_) (fun hc7 => ?_)
 refine iI (fun hc8 => ?_) (fun hc8 => ?_)
 refine iI (fun hc9 => ?_) (fun hc9 => ?_)
 refine callPR (⟨p.x.ho, p.x.os, p.y.ho, p.y.os⟩ : A_eqf) rfl (by (try dsimp only [pre_eqf]); exact ⟨by assumption, by assumption⟩) fun r2 hi10 => ?_
 dsimp only [po_eqf] at hi10
 exact fin_same13 hK ⟨r2.q⟩ (by dsimp only [po_same13] <;> (simp only [sck, Prod.mk.injEq]; simp_all))
 exact fin_same13 hK ⟨false = true⟩ (by dsimp only [po_same13] <;> (simp only [sck, Prod.mk.injEq]; simp_all))
 exact fin_same13 hK ⟨false = true⟩ (by dsimp only [po_same13] <;> (simp only [sck, Prod.mk.injEq]; simp_all))
 exact fin_same13 hK ⟨false = true⟩ (by dsimp only [po_same13] <;> (simp only [sck, Prod.mk.injEq]; simp_all))
 exact fin_same13 hK ⟨false = true⟩ (by dsimp only [po_same13] <;> (simp only [sck, Prod.mk.injEq]; simp_all))
 exact fin_same13 hK ⟨false = true⟩ (by dsimp only [po_same13] <;> (simp only [sck, Prod.mk.injEq]; simp_all))
 exact fin_same13 hK ⟨false = true⟩ (by dsimp only [po_same13] <;> (simp only [sck, Prod.mk.injEq]; simp_all))
 exact fin_same13 hK ⟨false = true⟩ (by dsimp only [po_same13] <;> (simp only [sck, Prod.mk.injEq]; simp_all))
 exact fin_same13 hK ⟨false = true⟩ (by dsimp only [po_same13] <;> (simp only [sck, Prod.mk.injEq]; simp_all))
noncomputable def nat_same13 := natC nat_eqf 0 (esOf I_same13 (spP pre_same13 out_same13)) 13 [(0, 15), (1, 15)]
theorem nat_same13_ok : NatsOk Tryd.prog nat_same13 := natC_ok (natE_pl (f := 13) (k := 0) (cfT_ok nat_eqf_ok) ft_same13_ok (by rfl) (by rfl) vf_same13) nat_eqf_ok
def ft_lsame : XF := .mk 150 (.one 4) (.aft (.seq (g_ 3 [e_ 0 2 (.box 39 (.t 0)), e_ 1 3 (.box 28 (.t 1)), p_ 2 4 (.mv (.c (.bool false)))]) (.seq (g_ 4 [p_ 0 10 (f_ 0 2), r_ 1 11 (.ld true 8 (.t 10)), e_ 2 5 (.al 36 [.nilS, .int 0 (.ofNat 0), .int 0 (.ofNat 0), .int 0 (.ofNat 0), .int 0 (.ofNat 0), .int 0 (.ofNat 0), .int 0 (.ofNat 0), .int 4 (.ofNat 0)]), e0_ 3 (.st 8 (.t 5) (.t 11))]) (.seq (.seq (g_ 73 [p_ 0 12 (f_ 8 2), r_ 1 13 (l_ 12), p_ 2 14 (k_ 13), p_ 3 15 (f_ 8 3), r_ 4 16 (l_ 15), p_ 5 17 (k_ 16), p_ 6 18 (.bin 3 5 (.t 14) (.t 17)), p_ 7 19 (m_ 18), pg_ 8 20 19 false (f_ 0 5), rg_ 9 21 19 false (l_ 20), pg_ 10 22 19 false (k_ 21), pg_ 11 23 19 false (f_ 0 3), pg_ 12 24 19 false (f_ 0 23), rg_ 13 25 19 false (l_ 24), pg_ 14 26 19 false (k_ 25), pg_ 15 27 19 false (.bin 3 5 (.t 22) (.t 26)), p_ 16 28 (.pick (.t 19) (.c (.bool true)) (.t 27)), p_ 17 29 (m_ 28), pg_ 18 30 29 false (f_ 1 5), rg_ 19 31 29 false (l_ 30), pg_ 20 32 29 false (f_ 0 3), pg_ 21 33 29 false (f_ 1 32), rg_ 22 34 29 false (l_ 33), pg_ 23 35 29 false (.bin 3 5 (.t 31) (.t 34)), p_ 24 36 (.pick (.t 29) (.c (.bool true)) (.t 35)), p_ 25 37 (m_ 36), pg_ 26 38 37 false (f_ 2 5), rg_ 27 39 37 false (l_ 38), pg_ 28 40 37 false (f_ 0 3), pg_ 29 41 37 false (f_ 2 40), rg_ 30 42 37 false (l_ 41), pg_ 31 43 37 false (.bin 3 5 (.t 39) (.t 42)), p_ 32 44 (.pick (.t 37) (.c (.bool true)) (.t 43)), p_ 33 45 (m_ 44), pg_ 34 46 45 false (f_ 3 5), rg_ 35 47 45 false (l_ 46), pg_ 36 48 45 false (f_ 0 3), pg_ 37 49 45 false (f_ 3 48), rg_ 38 50 45 false (l_ 49), pg_ 39 51 45 false (.bin 3 5 (.t 47) (.t 50)), p_ 40 52 (.pick (.t 45) (.c (.bool true)) (.t 51)), p_ 41 53 (m_ 52), pg_ 42 54 53 false (f_ 4 5), rg_ 43 55 53 false (l_ 54), pg_ 44 56 53 false (f_ 0 3), pg_ 45 57 53 false (f_ 4 56), rg_ 46 58 53 false (l_ 57), pg_ 47 59 53 false (.bin 3 5 (.t 55) (.t 58)), p_ 48 60 (.pick (.t 53) (.c (.bool true)) (.t 59)), p_ 49 61 (m_ 60), pg_ 50 62 61 false (f_ 5 5), rg_ 51 63 61 false (l_ 62), pg_ 52 64 61 false (f_ 0 3), pg_ 53 65 61 false (f_ 5 64), rg_ 54 66 61 false (l_ 65), pg_ 55 67 61 false (.bin 3 5 (.t 63) (.t 66)), p_ 56 68 (.pick (.t 61) (.c (.bool true)) (.t 67)), p_ 57 69 (m_ 68), pg_ 58 70 69 false (f_ 6 5), rg_ 59 71 69 false (l_ 70), pg_ 60 72 69 false (f_ 0 3), pg_ 61 73 69 false (f_ 6 72), rg_ 62 74 69 false (l_ 73), pg_ 63 75 69 false (.bin 3 5 (.t 71) (.t 74)), p_ 64 76 (.pick (.t 69) (.c (.bool true)) (.t 75)), p_ 65 77 (m_ 76), pg_ 66 78 77 false (f_ 7 5), rg_ 67 79 77 false (l_ 78), pg_ 68 80 77 false (f_ 0 3), pg_ 69 81 77 false (f_ 7 80), rg_ 70 82 77 false (l_ 81), pg_ 71 83 77 false (.bin 3 5 (.t 79) (.t 82)), p_ 72 84 (.pick (.t 77) (.c (.bool true)) (.t 83))]) (.cond (.t 84) (.seq (g_ 1 [p_ 0 4 (.mv (.c (.bool false)))]) .ret) .skip)) (.seq (.seq (g_ 1 [p_ 0 6 (.mv (i_ 0))]) (.block 2 (.pre [.can 0 [2, 3, 5, 6], .up 6, .can 0 [2, 3, 5, 6]] (.inv 0 (.aft (.seq (.seq (g_ 5 [p_ 0 85 (m_ 6), p_ 1 86 (f_ 0 5), r_ 2 87 (l_ 86), p_ 3 88 (k_ 87), p_ 4 89 (.bin 3 0 (.t 85) (.t 88))]) (.cond (.t 89) .skip (.exit 2))) (.seq (.block 3 (.seq (g_ 8 [p_ 0 92 (f_ 0 3), p_ 1 93 (f_ 0 92), r_ 2 94 (l_ 93), p_ 3 95 (m_ 6), p_ 4 96 (.ixs 3 (.t 94) (.t 95)), r_ 5 97 (.ld true 3 (.t 96)), e_ 6 7 (.al 83 [.int 0 (.ofNat 0), .int 0 (.ofNat 0), .bool false]), e0_ 7 (.st 3 (.t 7) (.t 97))]) (.seq (h_ 13 [p_ 0 98 (f_ 0 5), r_ 1 99 (l_ 98), p_ 2 100 (m_ 6), p_ 3 101 (.ixs 3 (.t 99) (.t 100)), r_ 4 102 (.ld true 3 (.t 101)), p_ 5 103 (f_ 0 7), r_ 6 104 (l_ 103), p_ 7 105 (f_ 1 7), r_ 8 106 (l_ 105), p_ 9 107 (f_ 2 7), r_ 10 108 (l_ 107), p_ 11 109 (.bld [.int 0 (.ofNat 0), .int 0 (.ofNat 0), .bool false] [(0, 1), (1, 1), (2, 1)] [.t 104, .t 106, .t 108]), p_ 12 110 (.eqs true 2 (.st [(0, 1, false, .int), (1, 1, false, .int), (2, 1, false, .bool)]) (.t 102) (.t 109))]) (.cond (.t 110) (.seq (g_ 1 [p_ 0 4 (.mv (.c (.bool false)))]) .ret) .skip)))) (g_ 3 [p_ 0 90 (m_ 6), p_ 1 91 (.bin 0 0 (.t 90) (i_ 1)), p_ 2 6 (m_ 91)]))) [(0, [.can 0 [2, 3, 5, 6]]), (1, [.can 0 [4]]), (2, [.can 0 [2, 3]])]))))) (.seq (.seq (g_ 1 [p_ 0 8 (.mv (i_ 0))]) (.block 4 (.pre [.can 0 [2, 3, 8], .up 8, .can 0 [2, 3, 8]] (.inv 1 (.aft (.seq (.seq (g_ 5 [p_ 0 111 (m_ 8), p_ 1 112 (f_ 8 2), r_ 2 113 (l_ 112), p_ 3 114 (k_ 113), p_ 4 115 (.bin 3 0 (.t 111) (.t 114))]) (.cond (.t 115) .skip (.exit 4))) (.seq (.block 5 (.seq (g_ 7 [p_ 0 118 (f_ 8 2), r_ 1 119 (l_ 118), p_ 2 120 (m_ 8), p_ 3 121 (.ixs 9 (.t 119) (.t 120)), r_ 4 122 (.ld true 9 (.t 121)), e_ 5 9 (.al 52 [.int 0 (.ofNat 0), .int 0 (.ofNat 0), .int 0 (.ofNat 0), .int 0 (.ofNat 0), .int 0 (.ofNat 0), .int 0 (.ofNat 0), .int 3 (.ofNat 0), .int 1 (.ofNat 0), .nilS]), e0_ 6 (.st 9 (.t 9) (.t 122))]) (.seq (h_ 27 [p_ 0 123 (f_ 0 9), r_ 1 124 (l_ 123), p_ 2 125 (f_ 1 9), r_ 3 126 (l_ 125), p_ 4 127 (f_ 2 9), r_ 5 128 (l_ 127), p_ 6 129 (f_ 3 9), r_ 7 130 (l_ 129), p_ 8 131 (f_ 4 9), r_ 9 132 (l_ 131), p_ 10 133 (f_ 5 9), r_ 11 134 (l_ 133), p_ 12 135 (f_ 6 9), r_ 13 136 (l_ 135), p_ 14 137 (f_ 7 9), r_ 15 138 (l_ 137), p_ 16 139 (f_ 8 9), r_ 17 140 (l_ 139), p_ 20 143 (f_ 8 3), r_ 21 144 (l_ 143), p_ 22 145 (m_ 8), p_ 23 146 (.ixs 9 (.t 144) (.t 145)), r_ 24 147 (.ld true 9 (.t 146)), c_ 18 141 37 [.t 140], a_ 1 124 (l_ 123), a_ 3 126 (l_ 125), a_ 5 128 (l_ 127), a_ 7 130 (l_ 129), a_ 9 132 (l_ 131), a_ 11 134 (l_ 133), a_ 13 136 (l_ 135), a_ 15 138 (l_ 137), a_ 21 144 (l_ 143), a_ 24 147 (.ld true 9 (.t 146)), p_ 19 142 (.bld [.int 0 (.ofNat 0), .int 0 (.ofNat 0), .int 0 (.ofNat 0), .int 0 (.ofNat 0), .int 0 (.ofNat 0), .int 0 (.ofNat 0), .int 3 (.ofNat 0), .int 1 (.ofNat 0), .nilS] [(0, 1), (1, 1), (2, 1), (3, 1), (4, 1), (5, 1), (6, 1), (7, 1), (8, 1)] [.t 124, .t 126, .t 128, .t 130, .t 132, .t 134, .t 136, .t 138, .t 141]), c_ 25 148 36 [.t 142, .t 147], p_ 26 149 (.un 0 (.t 148))]) (.cond (.t 149) (.seq (g_ 1 [p_ 0 4 (.mv (.c (.bool false)))]) .ret) .skip)))) (g_ 3 [p_ 0 116 (m_ 8), p_ 1 117 (.bin 0 0 (.t 116) (i_ 1)), p_ 2 8 (m_ 117)]))) [(0, [.can 0 [2, 3, 8]]), (1, [.can 0 [4]]), (4, [.can 0 []])]))))) (.seq (g_ 1 [p_ 0 4 (.mv (.c (.bool true)))]) .ret)))))) [(0, [.up 4]), (1, [.up 4])])
theorem ft_lsame_ok : chkF Tryd.prog 14 ft_lsame = true := by kernel_rfl
structure A_l_lsg where
 a : ScR
 b : ScR
 i : Int
def po_l_lsg (p : A_l_lsg) : Prop := p.a.gs = p.b.gs
def po_l_lsg1 (p : A_l_lsg) : Prop := ¬ p.a.gs = p.b.gs
noncomputable def I_l_lsg (p : A_l_lsg) : IL := ((.cons 6 (.sy (.int 0 p.i)) (.cons 5 (.ptr 2 0) (.cons 3 (.ptr 1 0) (.cons 2 (.ptr 0 0) .nil)))), (.node (.node .leaf (some (.blk false 28 9 [[.sy (.imm p.b.hg 3 GrR p.b.gs encG), .sy (.int 0 p.b.clients), .sy (.int 0 p.b.window), .sy (.int 0 p.b.deadline), .sy (.int 0 p.b.pace), .sy (.int 0 p.b.again), .sy (.int 0 p.b.bag), .sy (.int 4 p.b.first), .sy (.imm p.b.ho 9 OpR p.b.os encO)]])) .leaf) (some (.blk false 39 9 [[.sy (.imm p.a.hg 3 GrR p.a.gs encG), .sy (.int 0 p.a.clients), .sy (.int 0 p.a.window), .sy (.int 0 p.a.deadline), .sy (.int 0 p.a.pace), .sy (.int 0 p.a.again), .sy (.int 0 p.a.bag), .sy (.int 4 p.a.first), .sy (.imm p.a.ho 9 OpR p.a.os encO)]])) (.node .leaf (some (.blk false 36 8 [[.sy (.imm p.a.hg 3 GrR p.a.gs encG), .sy (.int 0 p.a.clients), .sy (.int 0 p.a.window), .sy (.int 0 p.a.deadline), .sy (.int 0 p.a.pace), .sy (.int 0 p.a.again), .sy (.int 0 p.a.bag), .sy (.int 4 p.a.first)]])) .leaf)), 3)
noncomputable def out_l_lsg (p : A_l_lsg) (K : KC) : Bool := must (iP (po_l_lsg p) (K 2 (.cons 3 (.ptr 1 0) (.cons 2 (.ptr 0 0) .nil)) (.node (.node .leaf (some (.blk false 28 9 [[.sy (.imm p.b.hg 3 GrR p.b.gs encG), .sy (.int 0 p.b.clients), .sy (.int 0 p.b.window), .sy (.int 0 p.b.deadline), .sy (.int 0 p.b.pace), .sy (.int 0 p.b.again), .sy (.int 0 p.b.bag), .sy (.int 4 p.b.first), .sy (.imm p.b.ho 9 OpR p.b.os encO)]])) .leaf) (some (.blk false 39 9 [[.sy (.imm p.a.hg 3 GrR p.a.gs encG), .sy (.int 0 p.a.clients), .sy (.int 0 p.a.window), .sy (.int 0 p.a.deadline), .sy (.int 0 p.a.pace), .sy (.int 0 p.a.again), .sy (.int 0 p.a.bag), .sy (.int 4 p.a.first), .sy (.imm p.a.ho 9 OpR p.a.os encO)]])) .leaf) 2) true) (iP (po_l_lsg1 p) (K 1 (.cons 4 (.bool false) .nil) .leaf 0) true)
def pre_l_lsg (p : A_l_lsg) : Prop := p.a.gs.length = p.b.gs.length ∧ 0 ≤ p.i ∧ p.i ≤ (p.a.gs.length : Int) ∧ p.a.gs.length ≤ 10 ∧ (p.a.gs.take p.i.toNat).map id = (p.b.gs.take p.i.toNat).map id
noncomputable def sp_l_lsg (p : A_l_lsg) (K : KC) : Bool := must (prB (pre_l_lsg p)) (out_l_lsg p K)
structure A_l_lso where
 a : ScR
 b : ScR
 i : Int
def po_l_lso (p : A_l_lso) : Prop := p.a.os.map opk = p.b.os.map opk
def po_l_lso1 (p : A_l_lso) : Prop := ¬ p.a.os.map opk = p.b.os.map opk
noncomputable def I_l_lso (p : A_l_lso) : IL := ((.cons 8 (.sy (.int 0 p.i)) (.cons 3 (.ptr 1 0) (.cons 2 (.ptr 0 0) .nil))), (.node (.node .leaf (some (.blk false 28 9 [[.sy (.imm p.b.hg 3 GrR p.b.gs encG), .sy (.int 0 p.b.clients), .sy (.int 0 p.b.window), .sy (.int 0 p.b.deadline), .sy (.int 0 p.b.pace), .sy (.int 0 p.b.again), .sy (.int 0 p.b.bag), .sy (.int 4 p.b.first), .sy (.imm p.b.ho 9 OpR p.b.os encO)]])) .leaf) (some (.blk false 39 9 [[.sy (.imm p.a.hg 3 GrR p.a.gs encG), .sy (.int 0 p.a.clients), .sy (.int 0 p.a.window), .sy (.int 0 p.a.deadline), .sy (.int 0 p.a.pace), .sy (.int 0 p.a.again), .sy (.int 0 p.a.bag), .sy (.int 4 p.a.first), .sy (.imm p.a.ho 9 OpR p.a.os encO)]])) .leaf), 2)
noncomputable def out_l_lso (p : A_l_lso) (K : KC) : Bool := must (iP (po_l_lso p) (K 4 .nil .leaf 0) true) (iP (po_l_lso1 p) (K 1 (.cons 4 (.bool false) .nil) .leaf 0) true)
def pre_l_lso (p : A_l_lso) : Prop := p.a.os.length = p.b.os.length ∧ 0 ≤ p.i ∧ p.i ≤ (p.a.os.length : Int) ∧ okO p.a.os ∧ okO p.b.os ∧ (p.a.os.take p.i.toNat).map opk = (p.b.os.take p.i.toNat).map opk
noncomputable def sp_l_lso (p : A_l_lso) (K : KC) : Bool := must (prB (pre_l_lso p)) (out_l_lso p K)
noncomputable def lp_lsame : LpF := fun j S M nx K => (Bool.rec ((Bool.rec (false) (exB fun p : A_l_lso => must (prB ((S, M, nx) = I_l_lso p)) (sp_l_lso p K)) (Nat.beq j 1))) (exB fun p : A_l_lsg => must (prB ((S, M, nx) = I_l_lsg p)) (sp_l_lsg p K)) (Nat.beq j 0))
def mu_l_lsg (p : A_l_lsg) : Nat := ((p.a.gs.length : Int) - p.i).toNat
theorem bk_l_lsg {p q : A_l_lsg} {K : KC} {s : IL} (hm : mu_l_lsg q < mu_l_lsg p) (hp : pre_l_lsg q) (hK : out_l_lsg q K = true) (e : s = I_l_lsg q) : (exB fun q => mP (s = I_l_lsg q ∧ mu_l_lsg q < mu_l_lsg p) (sp_l_lsg q K)) = true := exB_mk q (mustP ⟨e, hm⟩ (mustP hp hK))
def bd_l_lsg : XC := (.aft (.seq (.seq (g_ 5 [p_ 0 85 (m_ 6), p_ 1 86 (f_ 0 5), r_ 2 87 (l_ 86), p_ 3 88 (k_ 87), p_ 4 89 (.bin 3 0 (.t 85) (.t 88))]) (.cond (.t 89) .skip (.exit 2))) (.seq (.block 3 (.seq (g_ 8 [p_ 0 92 (f_ 0 3), p_ 1 93 (f_ 0 92), r_ 2 94 (l_ 93), p_ 3 95 (m_ 6), p_ 4 96 (.ixs 3 (.t 94) (.t 95)), r_ 5 97 (.ld true 3 (.t 96)), e_ 6 7 (.al 83 [.int 0 (.ofNat 0), .int 0 (.ofNat 0), .bool false]), e0_ 7 (.st 3 (.t 7) (.t 97))]) (.seq (h_ 13 [p_ 0 98 (f_ 0 5), r_ 1 99 (l_ 98), p_ 2 100 (m_ 6), p_ 3 101 (.ixs 3 (.t 99) (.t 100)), r_ 4 102 (.ld true 3 (.t 101)), p_ 5 103 (f_ 0 7), r_ 6 104 (l_ 103), p_ 7 105 (f_ 1 7), r_ 8 106 (l_ 105), p_ 9 107 (f_ 2 7), r_ 10 108 (l_ 107), p_ 11 109 (.bld [.int 0 (.ofNat 0), .int 0 (.ofNat 0), .bool false] [(0, 1), (1, 1), (2, 1)] [.t 104, .t 106, .t 108]), p_ 12 110 (.eqs true 2 (.st [(0, 1, false, .int), (1, 1, false, .int), (2, 1, false, .bool)]) (.t 102) (.t 109))]) (.cond (.t 110) (.seq (g_ 1 [p_ 0 4 (.mv (.c (.bool false)))]) .ret) .skip)))) (g_ 3 [p_ 0 90 (m_ 6), p_ 1 91 (.bin 0 0 (.t 90) (i_ 1)), p_ 2 6 (m_ 91)]))) [(0, [.can 0 [2, 3, 5, 6]]), (1, [.can 0 [4]]), (2, [.can 0 [2, 3]])])
theorem vb_l_lsg (p : A_l_lsg) (K : KC) (hpre : pre_l_lsg p) (hK : out_l_lsg p K = true) : (codeX (cfT nat_same13) lp_lsame 600 bd_l_lsg (I_l_lsg p).1 (I_l_lsg p).2.1 (I_l_lsg p).2.2 (fun e S M nx => Nat.casesOn e (exB fun q : A_l_lsg => must (prB ((S, M, nx) = I_l_lsg q ∧ mu_l_lsg q < mu_l_lsg p)) (sp_l_lsg q K)) (fun e2 => K (Nat.succ e2) S M nx))) = true := by
 refine Eq.trans (b := (let z1 : Bool := (K 1 (.cons 4 (.bool false) .nil) .leaf 0); iP (p.i < (p.a.gs.length : Int)) (mP (0 ≤ p.i ∧ p.i < (p.b.gs.length : Int)) (allB fun x1 : GrR => iP (p.b.gs[p.i.toNat]? = some x1) (mP (0 ≤ p.i ∧ p.i < (p.a.gs.length : Int)) (allB fun x2 : GrR => iP (p.a.gs[p.i.toNat]? = some x2) (iP (x2.f = x1.f) (iP (x2.s = x1.s) (iP (x2.c) (iP (x1.c) (mP (InR 0 (p.i + (1 : Int))) (exB fun q1 : A_l_lsg => mP (((.cons 6 (.sy (.int 0 (p.i + (1 : Int)))) (.cons 5 (.ptr 2 0) (.cons 3 (.ptr 1 0) (.cons 2 (.ptr 0 0) .nil)))), (.node (.node .leaf (some (.blk false 28 9 [[.sy (.imm p.b.hg 3 GrR p.b.gs encG), .sy (.int 0 p.b.clients), .sy (.int 0 p.b.window), .sy (.int 0 p.b.deadline), .sy (.int 0 p.b.pace), .sy (.int 0 p.b.again), .sy (.int 0 p.b.bag), .sy (.int 4 p.b.first), .sy (.imm p.b.ho 9 OpR p.b.os encO)]])) .leaf) (some (.blk false 39 9 [[.sy (.imm p.a.hg 3 GrR p.a.gs encG), .sy (.int 0 p.a.clients), .sy (.int 0 p.a.window), .sy (.int 0 p.a.deadline), .sy (.int 0 p.a.pace), .sy (.int 0 p.a.again), .sy (.int 0 p.a.bag), .sy (.int 4 p.a.first), .sy (.imm p.a.ho 9 OpR p.a.os encO)]])) (.node .leaf (some (.blk false 36 8 [[.sy (.imm p.a.hg 3 GrR p.a.gs encG), .sy (.int 0 p.a.clients), .sy (.int 0 p.a.window), .sy (.int 0 p.a.deadline), .sy (.int 0 p.a.pace), .sy (.int 0 p.a.again), .sy (.int 0 p.a.bag), .sy (.int 4 p.a.first)]])) .leaf)), 3) = I_l_lsg q1 ∧ mu_l_lsg q1 < mu_l_lsg p) (sp_l_lsg q1 K))) z1) (iP (x1.c) z1 (mP (InR 0 (p.i + (1 : Int))) (exB fun q2 : A_l_lsg => mP (((.cons 6 (.sy (.int 0 (p.i + (1 : Int)))) (.cons 5 (.ptr 2 0) (.cons 3 (.ptr 1 0) (.cons 2 (.ptr 0 0) .nil)))), (.node (.node .leaf (some (.blk false 28 9 [[.sy (.imm p.b.hg 3 GrR p.b.gs encG), .sy (.int 0 p.b.clients), .sy (.int 0 p.b.window), .sy (.int 0 p.b.deadline), .sy (.int 0 p.b.pace), .sy (.int 0 p.b.again), .sy (.int 0 p.b.bag), .sy (.int 4 p.b.first), .sy (.imm p.b.ho 9 OpR p.b.os encO)]])) .leaf) (some (.blk false 39 9 [[.sy (.imm p.a.hg 3 GrR p.a.gs encG), .sy (.int 0 p.a.clients), .sy (.int 0 p.a.window), .sy (.int 0 p.a.deadline), .sy (.int 0 p.a.pace), .sy (.int 0 p.a.again), .sy (.int 0 p.a.bag), .sy (.int 4 p.a.first), .sy (.imm p.a.ho 9 OpR p.a.os encO)]])) (.node .leaf (some (.blk false 36 8 [[.sy (.imm p.a.hg 3 GrR p.a.gs encG), .sy (.int 0 p.a.clients), .sy (.int 0 p.a.window), .sy (.int 0 p.a.deadline), .sy (.int 0 p.a.pace), .sy (.int 0 p.a.again), .sy (.int 0 p.a.bag), .sy (.int 4 p.a.first)]])) .leaf)), 3) = I_l_lsg q2 ∧ mu_l_lsg q2 < mu_l_lsg p) (sp_l_lsg q2 K))))) z1) z1) true)) true)) (K 2 (.cons 3 (.ptr 1 0) (.cons 2 (.ptr 0 0) .nil)) (.node (.node .leaf (some (.blk false 28 9 [[.sy (.imm p.b.hg 3 GrR p.b.gs encG), .sy (.int 0 p.b.clients), .sy (.int 0 p.b.window), .sy (.int 0 p.b.deadline), .sy (.int 0 p.b.pace), .sy (.int 0 p.b.again), .sy (.int 0 p.b.bag), .sy (.int 4 p.b.first), .sy (.imm p.b.ho 9 OpR p.b.os encO)]])) .leaf) (some (.blk false 39 9 [[.sy (.imm p.a.hg 3 GrR p.a.gs encG), .sy (.int 0 p.a.clients), .sy (.int 0 p.a.window), .sy (.int 0 p.a.deadline), .sy (.int 0 p.a.pace), .sy (.int 0 p.a.again), .sy (.int 0 p.a.bag), .sy (.int 4 p.a.first), .sy (.imm p.a.ho 9 OpR p.a.os encO)]])) .leaf) 2))) (by kernel_rfl) ?_
 obtain ⟨hK0, hKr0⟩ := must_ok hK
 have hK1 := hKr0
 dsimp only [pre_l_lsg] at hpre
 obtain ⟨g0, g1, g2, g3, g4⟩ := hpre
 refine iI (fun hc1 => ?_) (fun hc1 => ?_)
 refine mI (by first | omega | (constructor <;> omega)) ?_
 refine allB_mk (fun x1 => ?_)
 refine iI (fun hi2 => ?_) (fun _ => rfl)
 refine mI (by first | omega | (constructor <;> omega)) ?_
 refine allB_mk (fun x2 => ?_)
 refine iI (fun hi3 => ?_) (fun _ => rfl)
 refine iI (fun hc4 => ?_) (fun hc4 => ?_)
 refine iI (fun hc5 => ?_) (fun hc5 => ?_)
 refine iI (fun hc6 => ?_) (fun hc6 => ?_)
 refine iI (fun hc7 => ?_) (fun hc7 => ?_)
 refine mI (by simp only [InR]; omega) ?_
 exact bk_l_lsg (q := ⟨p.a, p.b, p.i + (1 : Int)⟩) (by dsimp only [mu_l_lsg]; omega) (by dsimp only [pre_l_lsg]; refine ⟨g0, by omega, by omega, g3, take_step (by omega) g4 hi3 hi2 ?_⟩; show x2 = x1; obtain ⟨⟩ := x1; obtain ⟨⟩ := x2; simp_all) hK rfl
 exact ifB_use (show ¬ p.a.gs = p.b.gs from (by intro e; rw [e] at hi3; have e2 := Option.some.inj (hi3.symm.trans hi2); subst e2; first | contradiction | omega | simp_all)) hK1
 refine iI (fun hc8 => ?_) (fun hc8 => ?_)
 exact ifB_use (show ¬ p.a.gs = p.b.gs from (by intro e; rw [e] at hi3; have e2 := Option.some.inj (hi3.symm.trans hi2); subst e2; first | contradiction | omega | simp_all)) hK1
 refine mI (by simp only [InR]; omega) ?_
 exact bk_l_lsg (q := ⟨p.a, p.b, p.i + (1 : Int)⟩) (by dsimp only [mu_l_lsg]; omega) (by dsimp only [pre_l_lsg]; refine ⟨g0, by omega, by omega, g3, take_step (by omega) g4 hi3 hi2 ?_⟩; show x2 = x1; obtain ⟨⟩ := x1; obtain ⟨⟩ := x2; simp_all) hK rfl
 exact ifB_use (show ¬ p.a.gs = p.b.gs from (by intro e; rw [e] at hi3; have e2 := Option.some.inj (hi3.symm.trans hi2); subst e2; first | contradiction | omega | simp_all)) hK1
 exact ifB_use (show ¬ p.a.gs = p.b.gs from (by intro e; rw [e] at hi3; have e2 := Option.some.inj (hi3.symm.trans hi2); subst e2; first | contradiction | omega | simp_all)) hK1
 exact ifB_use (show p.a.gs = p.b.gs from (by have e := take_end g4 (by omega) (by omega); simpa using e)) hK0
theorem lo_l_lsg : LpOk Tryd.prog 150 0 lp_lsame true 0 bd_l_lsg := by
 exact lp_of (lf := 600) ts_mix (cfT_ok nat_same13_ok) (by rfl) I_l_lsg mu_l_lsg sp_l_lsg (fun b j x h => by cases h) (fun S M nx K h => by obtain ⟨p, h⟩ := exB_ok h; exact ⟨p, (mustP_ok h).1, (mustP_ok h).2⟩) (fun p K h => vb_l_lsg p K (mustP_ok h).1 (mustP_ok h).2)
def mu_l_lso (p : A_l_lso) : Nat := ((p.a.os.length : Int) - p.i).toNat
theorem bk_l_lso {p q : A_l_lso} {K : KC} {s : IL} (hm : mu_l_lso q < mu_l_lso p) (hp : pre_l_lso q) (hK : out_l_lso q K = true) (e : s = I_l_lso q) : (exB fun q => mP (s = I_l_lso q ∧ mu_l_lso q < mu_l_lso p) (sp_l_lso q K)) = true := exB_mk q (mustP ⟨e, hm⟩ (mustP hp hK))
def bd_l_lso : XC := (.aft (.seq (.seq (g_ 5 [p_ 0 111 (m_ 8), p_ 1 112 (f_ 8 2), r_ 2 113 (l_ 112), p_ 3 114 (k_ 113), p_ 4 115 (.bin 3 0 (.t 111) (.t 114))]) (.cond (.t 115) .skip (.exit 4))) (.seq (.block 5 (.seq (g_ 7 [p_ 0 118 (f_ 8 2), r_ 1 119 (l_ 118), p_ 2 120 (m_ 8), p_ 3 121 (.ixs 9 (.t 119) (.t 120)), r_ 4 122 (.ld true 9 (.t 121)), e_ 5 9 (.al 52 [.int 0 (.ofNat 0), .int 0 (.ofNat 0), .int 0 (.ofNat 0), .int 0 (.ofNat 0), .int 0 (.ofNat 0), .int 0 (.ofNat 0), .int 3 (.ofNat 0), .int 1 (.ofNat 0), .nilS]), e0_ 6 (.st 9 (.t 9) (.t 122))]) (.seq (h_ 27 [p_ 0 123 (f_ 0 9), r_ 1 124 (l_ 123), p_ 2 125 (f_ 1 9), r_ 3 126 (l_ 125), p_ 4 127 (f_ 2 9), r_ 5 128 (l_ 127), p_ 6 129 (f_ 3 9), r_ 7 130 (l_ 129), p_ 8 131 (f_ 4 9), r_ 9 132 (l_ 131), p_ 10 133 (f_ 5 9), r_ 11 134 (l_ 133), p_ 12 135 (f_ 6 9), r_ 13 136 (l_ 135), p_ 14 137 (f_ 7 9), r_ 15 138 (l_ 137), p_ 16 139 (f_ 8 9), r_ 17 140 (l_ 139), p_ 20 143 (f_ 8 3), r_ 21 144 (l_ 143), p_ 22 145 (m_ 8), p_ 23 146 (.ixs 9 (.t 144) (.t 145)), r_ 24 147 (.ld true 9 (.t 146)), c_ 18 141 37 [.t 140], a_ 1 124 (l_ 123), a_ 3 126 (l_ 125), a_ 5 128 (l_ 127), a_ 7 130 (l_ 129), a_ 9 132 (l_ 131), a_ 11 134 (l_ 133), a_ 13 136 (l_ 135), a_ 15 138 (l_ 137), a_ 21 144 (l_ 143), a_ 24 147 (.ld true 9 (.t 146)), p_ 19 142 (.bld [.int 0 (.ofNat 0), .int 0 (.ofNat 0), .int 0 (.ofNat 0), .int 0 (.ofNat 0), .int 0 (.ofNat 0), .int 0 (.ofNat 0), .int 3 (.ofNat 0), .int 1 (.ofNat 0), .nilS] [(0, 1), (1, 1), (2, 1), (3, 1), (4, 1), (5, 1), (6, 1), (7, 1), (8, 1)] [.t 124, .t 126, .t 128, .t 130, .t 132, .t 134, .t 136, .t 138, .t 141]), c_ 25 148 36 [.t 142, .t 147], p_ 26 149 (.un 0 (.t 148))]) (.cond (.t 149) (.seq (g_ 1 [p_ 0 4 (.mv (.c (.bool false)))]) .ret) .skip)))) (g_ 3 [p_ 0 116 (m_ 8), p_ 1 117 (.bin 0 0 (.t 116) (i_ 1)), p_ 2 8 (m_ 117)]))) [(0, [.can 0 [2, 3, 8]]), (1, [.can 0 [4]]), (4, [.can 0 []])])
theorem vb_l_lso (p : A_l_lso) (K : KC) (hpre : pre_l_lso p) (hK : out_l_lso p K = true) : (codeX (cfT nat_same13) lp_lsame 600 bd_l_lso (I_l_lso p).1 (I_l_lso p).2.1 (I_l_lso p).2.2 (fun e S M nx => Nat.casesOn e (exB fun q : A_l_lso => must (prB ((S, M, nx) = I_l_lso q ∧ mu_l_lso q < mu_l_lso p)) (sp_l_lso q K)) (fun e2 => K (Nat.succ e2) S M nx))) = true := by
 refine Eq.trans (b := (iP (p.i < (p.a.os.length : Int)) (mP (0 ≤ p.i ∧ p.i < (p.a.os.length : Int)) (allB fun x1 : OpR => iP (p.a.os[p.i.toNat]? = some x1) (mP (0 ≤ p.i ∧ p.i < (p.b.os.length : Int)) (allB fun x2 : OpR => iP (p.b.os[p.i.toNat]? = some x2) (useC (([.sy (.imm x1.hp 5 PtR x1.ps encP)], .leaf, 0)) I_rparts pre_rparts po_rparts fun p1 r1 => mP (((.int 0 x1.kind) : SY) = (.int 0 x1.kind)) (mP (((.int 0 x1.x) : SY) = (.int 0 x1.x)) (mP (((.int 0 x1.y) : SY) = (.int 0 x1.y)) (mP (((.int 0 x1.i) : SY) = (.int 0 x1.i)) (mP (((.int 0 x1.at_) : SY) = (.int 0 x1.at_)) (mP (((.int 0 x1.mode) : SY) = (.int 0 x1.mode)) (mP (((.int 3 x1.mask) : SY) = (.int 3 x1.mask)) (mP (((.int 1 x1.grp) : SY) = (.int 1 x1.grp)) (mP (((.imm p.b.ho 9 OpR p.b.os encO) : SY) = (.imm p.b.ho 9 OpR p.b.os encO)) (must (Bool.and (prB (((.int 0 x2.kind) : SY) = (.int 0 x2.kind))) (Bool.and (prB (((.int 0 x2.x) : SY) = (.int 0 x2.x))) (Bool.and (prB (((.int 0 x2.y) : SY) = (.int 0 x2.y))) (Bool.and (prB (((.int 0 x2.i) : SY) = (.int 0 x2.i))) (Bool.and (prB (((.int 0 x2.at_) : SY) = (.int 0 x2.at_))) (Bool.and (prB (((.int 0 x2.mode) : SY) = (.int 0 x2.mode))) (Bool.and (prB (((.int 3 x2.mask) : SY) = (.int 3 x2.mask))) (Bool.and (prB (((.int 1 x2.grp) : SY) = (.int 1 x2.grp))) (Bool.and (prB (((.imm x2.hp 5 PtR x2.ps encP) : SY) = (.imm x2.hp 5 PtR x2.ps encP))) (true)))))))))) (useC (([.agg [.sy (.int 0 x1.kind), .sy (.int 0 x1.x), .sy (.int 0 x1.y), .sy (.int 0 x1.i), .sy (.int 0 x1.at_), .sy (.int 0 x1.mode), .sy (.int 3 x1.mask), .sy (.int 1 x1.grp), .sy (.imm r1.h 5 PtR r1.o encP)], .agg [.sy (.int 0 x2.kind), .sy (.int 0 x2.x), .sy (.int 0 x2.y), .sy (.int 0 x2.i), .sy (.int 0 x2.at_), .sy (.int 0 x2.mode), .sy (.int 3 x2.mask), .sy (.int 1 x2.grp), .sy (.imm x2.hp 5 PtR x2.ps encP)]], .leaf, 0)) I_rsameOp pre_rsameOp po_rsameOp fun p2 r2 => iP (¬ r2.q) (K 1 (.cons 4 (.bool false) .nil) .leaf 0) (mP (InR 0 (p.i + (1 : Int))) (exB fun q1 : A_l_lso => mP (((.cons 8 (.sy (.int 0 (p.i + (1 : Int)))) (.cons 3 (.ptr 1 0) (.cons 2 (.ptr 0 0) .nil))), (.node (.node .leaf (some (.blk false 28 9 [[.sy (.imm p.b.hg 3 GrR p.b.gs encG), .sy (.int 0 p.b.clients), .sy (.int 0 p.b.window), .sy (.int 0 p.b.deadline), .sy (.int 0 p.b.pace), .sy (.int 0 p.b.again), .sy (.int 0 p.b.bag), .sy (.int 4 p.b.first), .sy (.imm p.b.ho 9 OpR p.b.os encO)]])) .leaf) (some (.blk false 39 9 [[.sy (.imm p.a.hg 3 GrR p.a.gs encG), .sy (.int 0 p.a.clients), .sy (.int 0 p.a.window), .sy (.int 0 p.a.deadline), .sy (.int 0 p.a.pace), .sy (.int 0 p.a.again), .sy (.int 0 p.a.bag), .sy (.int 4 p.a.first), .sy (.imm p.a.ho 9 OpR p.a.os encO)]])) .leaf), 2) = I_l_lso q1 ∧ mu_l_lso q1 < mu_l_lso p) (sp_l_lso q1 K)))))))))))))) true)) true)) (K 4 .nil .leaf 0))) (by kernel_rfl) ?_
 obtain ⟨hK0, hKr0⟩ := must_ok hK
 have hK1 := hKr0
 dsimp only [pre_l_lso] at hpre
 obtain ⟨g0, g1, g2, g3, g4, g5⟩ := hpre
 have g8 := g3.1
 refine iI (fun hc1 => ?_) (fun hc1 => ?_)
 refine mI (by first | omega | (constructor <;> omega)) ?_
 refine allB_mk (fun x1 => ?_)
 refine iI (fun hi2 => ?_) (fun _ => rfl)
 first | have hm_x1 := g3.2 _ x1 (by assumption) | have hm_x1 := g4.2 _ x1 (by assumption)
 refine mI (by first | omega | (constructor <;> omega)) ?_
 refine allB_mk (fun x2 => ?_)
 refine iI (fun hi3 => ?_) (fun _ => rfl)
 first | have hm_x2 := g3.2 _ x2 (by assumption) | have hm_x2 := g4.2 _ x2 (by assumption)
 refine callPR (⟨x1.hp, x1.ps⟩ : A_rparts) rfl (by (try dsimp only [pre_rparts]); omega) fun r1 hi4 => ?_
 dsimp only [po_rparts] at hi4
 refine mI (rfl) (mI (rfl) (mI (rfl) (mI (rfl) (mI (rfl) (mI (rfl) (mI (rfl) (mI (rfl) (mI (rfl) ?_))))))))
 refine must_mk (by simp [prB]) ?_
 refine callPR (⟨({ x1 with hp := r1.h, ps := r1.o } : OpR), x2⟩ : A_rsameOp) rfl (by (try dsimp only [pre_rsameOp]); refine ⟨?_, ?_⟩ <;> first | omega | (rw [hi4]; omega)) fun r2 hi5 => ?_
 dsimp only [po_rsameOp] at hi5
 refine iI (fun hc6 => ?_) (fun hc6 => ?_)
 exact ifB_use (show ¬ p.a.os.map opk = p.b.os.map opk from (by exact take_no hi2 hi3 (fun e => absurd (hi5.2 (by rw [← e]; simp only [opk, hi4])) (by assumption)))) hK1
 refine mI (by simp only [InR]; omega) ?_
 exact bk_l_lso (q := ⟨p.a, p.b, p.i + (1 : Int)⟩) (by dsimp only [mu_l_lso]; omega) (by dsimp only [pre_l_lso]; refine ⟨g0, by omega, by omega, g3, g4, take_step (by omega) g5 hi2 hi3 (by have e := hi5.1 (Classical.not_not.1 (by assumption)); rw [← e]; simp only [opk, hi4])⟩) hK rfl
 exact ifB_use (show p.a.os.map opk = p.b.os.map opk from (by exact take_end g5 (by omega) (by omega))) hK0
theorem lo_l_lso : LpOk Tryd.prog 150 0 lp_lsame true 1 bd_l_lso := by
 exact lp_of (lf := 600) ts_mix (cfT_ok nat_same13_ok) (by rfl) I_l_lso mu_l_lso sp_l_lso (fun b j x h => by cases h) (fun S M nx K h => by obtain ⟨p, h⟩ := exB_ok h; exact ⟨p, (mustP_ok h).1, (mustP_ok h).2⟩) (fun p K h => vb_l_lso p K (mustP_ok h).1 (mustP_ok h).2)
structure A_lsame where
 a : ScR
 b : ScR
structure R_lsame where
 q : Prop
def po_lsame (p : A_lsame) (r : R_lsame) : Prop := r.q ↔ sck p.a = sck p.b
noncomputable def I_lsame (p : A_lsame) : IE := ([.agg [.sy (.imm p.a.hg 3 GrR p.a.gs encG), .sy (.int 0 p.a.clients), .sy (.int 0 p.a.window), .sy (.int 0 p.a.deadline), .sy (.int 0 p.a.pace), .sy (.int 0 p.a.again), .sy (.int 0 p.a.bag), .sy (.int 4 p.a.first), .sy (.imm p.a.ho 9 OpR p.a.os encO)], .agg [.sy (.imm p.b.hg 3 GrR p.b.gs encG), .sy (.int 0 p.b.clients), .sy (.int 0 p.b.window), .sy (.int 0 p.b.deadline), .sy (.int 0 p.b.pace), .sy (.int 0 p.b.again), .sy (.int 0 p.b.bag), .sy (.int 4 p.b.first), .sy (.imm p.b.ho 9 OpR p.b.os encO)]], .leaf, 0)
noncomputable def out_lsame (p : A_lsame) (K : KE) : Bool := allB fun r : R_lsame => iP (po_lsame p r) (K (.sy (.bool r.q)) .leaf 0) true
def pre_lsame (p : A_lsame) : Prop := okO p.a.os ∧ okO p.b.os ∧ p.a.gs.length ≤ 10 ∧ p.b.gs.length ≤ 10
theorem fin_lsame {p : A_lsame} {K : KE} (hK : out_lsame p K = true) (r : R_lsame) (h : po_lsame p r) : K (.sy (.bool r.q)) .leaf 0 = true := ifB_use h (allB_ok hK r)
theorem vf_lsame (p : A_lsame) (K : KE) (hpre : pre_lsame p) (hK : out_lsame p K = true) : (funE 0 (cfT nat_same13) lp_lsame 600 ft_lsame (I_lsame p).1 (I_lsame p).2.1 (I_lsame p).2.2 K) = true := by
 refine Eq.trans (b := (let z0 : Bool := (K (.sy (.bool (false = true))) .leaf 0); iP (¬ (p.a.os.length : Int) = (p.b.os.length : Int)) z0 (iP (¬ (p.a.gs.length : Int) = (p.b.gs.length : Int)) z0 (iP (¬ p.a.clients = p.b.clients) z0 (iP (¬ p.a.window = p.b.window) z0 (iP (¬ p.a.deadline = p.b.deadline) z0 (iP (¬ p.a.pace = p.b.pace) z0 (iP (¬ p.a.again = p.b.again) z0 (iP (¬ p.a.bag = p.b.bag) z0 (iP (¬ p.a.first = p.b.first) z0 (exB fun p1 : A_l_lsg => mP (((.cons 6 (.sy (.int 0 0)) (.cons 5 (.ptr 2 0) (.cons 3 (.ptr 1 0) (.cons 2 (.ptr 0 0) .nil)))), (.node (.node .leaf (some (.blk false 28 9 [[.sy (.imm p.b.hg 3 GrR p.b.gs encG), .sy (.int 0 p.b.clients), .sy (.int 0 p.b.window), .sy (.int 0 p.b.deadline), .sy (.int 0 p.b.pace), .sy (.int 0 p.b.again), .sy (.int 0 p.b.bag), .sy (.int 4 p.b.first), .sy (.imm p.b.ho 9 OpR p.b.os encO)]])) .leaf) (some (.blk false 39 9 [[.sy (.imm p.a.hg 3 GrR p.a.gs encG), .sy (.int 0 p.a.clients), .sy (.int 0 p.a.window), .sy (.int 0 p.a.deadline), .sy (.int 0 p.a.pace), .sy (.int 0 p.a.again), .sy (.int 0 p.a.bag), .sy (.int 4 p.a.first), .sy (.imm p.a.ho 9 OpR p.a.os encO)]])) (.node .leaf (some (.blk false 36 8 [[.sy (.imm p.a.hg 3 GrR p.a.gs encG), .sy (.int 0 p.a.clients), .sy (.int 0 p.a.window), .sy (.int 0 p.a.deadline), .sy (.int 0 p.a.pace), .sy (.int 0 p.a.again), .sy (.int 0 p.a.bag), .sy (.int 4 p.a.first)]])) .leaf)), 3) = I_l_lsg p1) (mP (pre_l_lsg p1) (must (iP (po_l_lsg p1) (exB fun p2 : A_l_lso => mP (((.cons 8 (.sy (.int 0 0)) (.cons 3 (.ptr 1 0) (.cons 2 (.ptr 0 0) .nil))), (.node (.node .leaf (some (.blk false 28 9 [[.sy (.imm p1.b.hg 3 GrR p1.b.gs encG), .sy (.int 0 p1.b.clients), .sy (.int 0 p1.b.window), .sy (.int 0 p1.b.deadline), .sy (.int 0 p1.b.pace), .sy (.int 0 p1.b.again), .sy (.int 0 p1.b.bag), .sy (.int 4 p1.b.first), .sy (.imm p1.b.ho 9 OpR p1.b.os encO)]])) .leaf) (some (.blk false 39 9 [[.sy (.imm p1.a.hg 3 GrR p1.a.gs encG), .sy (.int 0 p1.a.clients), .sy (.int 0 p1.a.window), .sy (.int 0 p1.a.deadline), .sy (.int 0 p1.a.pace), .sy (.int 0 p1.a.again), .sy (.int 0 p1.a.bag), .sy (.int 4 p1.a.first), .sy (.imm p1.a.ho 9 OpR p1.a.os encO)]])) .leaf), 2) = I_l_lso p2) (mP (pre_l_lso p2) (must (iP (po_l_lso p2) (K (.sy (.bool (true = true))) .leaf 0) true) (iP (po_l_lso1 p2) z0 true)))) true) (iP (po_l_lsg1 p1) z0 true)))))))))))))) (by kernel_rfl) ?_
 dsimp only [pre_lsame] at hpre
 obtain ⟨u1, u2, u3, u4⟩ := hpre
 refine iI (fun hc1 => ?_) (fun hc1 => ?_)
 exact fin_lsame hK ⟨false = true⟩ (by dsimp only [po_lsame] <;> (simp only [sck, Prod.mk.injEq]; first | (simp_all; done) | (refine Iff.intro (fun h => (by cases h)) (fun h => ?_); exfalso; have e1 := congrArg List.length h.1; have e2 := congrArg List.length h.2.2.2; simp only [List.length_map] at e2; omega)))
 refine iI (fun hc2 => ?_) (fun hc2 => ?_)
 exact fin_lsame hK ⟨false = true⟩ (by dsimp only [po_lsame] <;> (simp only [sck, Prod.mk.injEq]; first | (simp_all; done) | (refine Iff.intro (fun h => (by cases h)) (fun h => ?_); exfalso; have e1 := congrArg List.length h.1; have e2 := congrArg List.length h.2.2.2; simp only [List.length_map] at e2; omega)))
 refine iI (fun hc3 => ?_) (fun hc3 => ?_)
 exact fin_lsame hK ⟨false = true⟩ (by dsimp only [po_lsame] <;> (simp only [sck, Prod.mk.injEq]; first | (simp_all; done) | (refine Iff.intro (fun h => (by cases h)) (fun h => ?_); exfalso; have e1 := congrArg List.length h.1; have e2 := congrArg List.length h.2.2.2; simp only [List.length_map] at e2; omega)))
 refine iI (fun hc4 => ?_) (fun hc4 => ?_)
 exact fin_lsame hK ⟨false = true⟩ (by dsimp only [po_lsame] <;> (simp only [sck, Prod.mk.injEq]; first | (simp_all; done) | (refine Iff.intro (fun h => (by cases h)) (fun h => ?_); exfalso; have e1 := congrArg List.length h.1; have e2 := congrArg List.length h.2.2.2; simp only [List.length_map] at e2; omega)))
 refine iI (fun hc5 => ?_) (fun hc5 => ?_)
 exact fin_lsame hK ⟨false = true⟩ (by dsimp only [po_lsame] <;> (simp only [sck, Prod.mk.injEq]; first | (simp_all; done) | (refine Iff.intro (fun h => (by cases h)) (fun h => ?_); exfalso; have e1 := congrArg List.length h.1; have e2 := congrArg List.length h.2.2.2; simp only [List.length_map] at e2; omega)))
 refine iI (fun hc6 => ?_) (fun hc6 => ?_)
 exact fin_lsame hK ⟨false = true⟩ (by dsimp only [po_lsame] <;> (simp only [sck, Prod.mk.injEq]; first | (simp_all; done) | (refine Iff.intro (fun h => (by cases h)) (fun h => ?_); exfalso; have e1 := congrArg List.length h.1; have e2 := congrArg List.length h.2.2.2; simp only [List.length_map] at e2; omega)))
 refine iI (fun hc7 => ?_) (fun hc7 => ?_)
 exact fin_lsame hK ⟨false = true⟩ (by dsimp only [po_lsame] <;> (simp only [sck, Prod.mk.injEq]; first | (simp_all; done) | (refine Iff.intro (fun h => (by cases h)) (fun h => ?_); exfalso; have e1 := congrArg List.length h.1; have e2 := congrArg List.length h.2.2.2; simp only [List.length_map] at e2; omega)))
 refine iI (fun hc8 => ?_) (fun hc8 => ?_)
 exact fin_lsame hK ⟨false = true⟩ (by dsimp only [po_lsame] <;> (simp only [sck, Prod.mk.injEq]; first | (simp_all; done) | (refine Iff.intro (fun h => (by cases h)) (fun h => ?_); exfalso; have e1 := congrArg List.length h.1; have e2 := congrArg List.length h.2.2.2; simp only [List.length_map] at e2; omega)))
 refine iI (fun hc9 => ?_) (fun hc9 => ?_)
 exact fin_lsame hK ⟨false = true⟩ (by dsimp only [po_lsame] <;> (simp only [sck, Prod.mk.injEq]; first | (simp_all; done) | (refine Iff.intro (fun h => (by cases h)) (fun h => ?_); exfalso; have e1 := congrArg List.length h.1; have e2 := congrArg List.length h.2.2.2; simp only [List.length_map] at e2; omega)))
 refine callP (⟨p.a, p.b, (0 : Int)⟩ : A_l_lsg) rfl (by (try dsimp only [pre_l_lsg]); refine ⟨by omega, by omega, by omega, by omega, rfl⟩) ?_
 refine must_mk ?_ ?_
 refine iI (p := p.a.gs = p.b.gs) (fun hi10 => ?_) (fun _ => rfl)
 refine callP (⟨p.a, p.b, (0 : Int)⟩ : A_l_lso) rfl (by (try dsimp only [pre_l_lso]); refine ⟨by omega, by omega, by omega, u1, u2, rfl⟩) ?_
 refine must_mk ?_ ?_
 refine iI (p := p.a.os.map opk = p.b.os.map opk) (fun hi11 => ?_) (fun _ => rfl)
 exact fin_lsame hK ⟨true = true⟩ (by dsimp only [po_lsame] <;> (simp only [sck, Prod.mk.injEq]; first | (simp_all; done) | (refine Iff.intro (fun h => (by cases h)) (fun h => ?_); exfalso; have e1 := congrArg List.length h.1; have e2 := congrArg List.length h.2.2.2; simp only [List.length_map] at e2; omega)))
 refine iI (p := ¬ p.a.os.map opk = p.b.os.map opk) (fun hi12 => ?_) (fun _ => rfl)
 exact fin_lsame hK ⟨false = true⟩ (by dsimp only [po_lsame] <;> (simp only [sck, Prod.mk.injEq]; first | (simp_all; done) | (refine Iff.intro (fun h => (by cases h)) (fun h => ?_); exfalso; have e1 := congrArg List.length h.1; have e2 := congrArg List.length h.2.2.2; simp only [List.length_map] at e2; omega)))
 refine iI (p := ¬ p.a.gs = p.b.gs) (fun hi13 => ?_) (fun _ => rfl)
 exact fin_lsame hK ⟨false = true⟩ (by dsimp only [po_lsame] <;> (simp only [sck, Prod.mk.injEq]; first | (simp_all; done) | (refine Iff.intro (fun h => (by cases h)) (fun h => ?_); exfalso; have e1 := congrArg List.length h.1; have e2 := congrArg List.length h.2.2.2; simp only [List.length_map] at e2; omega)))
noncomputable def nat_lsame := natC nat_same13 0 (esOf I_lsame (spP pre_lsame out_lsame)) 14 [(0, 15), (1, 15)]
theorem nat_lsame_ok : NatsOk Tryd.prog nat_lsame := natC_ok (natE_said (f := 14) (k := 0) (lp := lp_lsame) (lf := 600) ts_mix (cfT_ok nat_same13_ok) ft_lsame_ok (by rfl) (fun b j x h => (mem_step lo_l_lsg (fun h => (mem_step lo_l_lso (fun h => (by cases h)) h)) h)) fun p K h => vf_lsame p K (mustP_ok h).1 (mustP_ok h).2) nat_same13_ok
def ft_scriptSames : XF := .mk 34 (.one 4) (.seq (g_ 3 [e_ 0 2 (.box 28 (.t 0)), e_ 1 3 (.box 28 (.t 1)), p_ 2 4 (.mv (.c (.bool false)))]) (.seq (.seq (g_ 8 [r_ 0 5 (.ld true 9 (.t 2)), c_ 1 6 5 [.t 5], p_ 2 7 (.un 0 (.t 6)), p_ 3 8 (m_ 7), rg_ 4 9 8 false (.ld true 9 (.t 3)), cg_ 5 10 8 false 5 [.t 9], pg_ 6 11 8 false (.un 0 (.t 10)), p_ 7 12 (.pick (.t 8) (.c (.bool true)) (.t 11))]) (.cond (.t 12) (.seq (g_ 2 [c_ 0 13 6 [], p_ 1 4 (m_ 13)]) .ret) .skip)) (.seq (h_ 21 [r_ 0 14 (.ld true 9 (.t 2)), r_ 2 16 (.ld true 9 (.t 3)), r_ 5 19 (.ld true 9 (.t 2)), r_ 7 21 (.ld true 9 (.t 3)), c_ 1 15 8 [.t 14], a_ 2 16 (.ld true 9 (.t 3)), a_ 5 19 (.ld true 9 (.t 2)), a_ 7 21 (.ld true 9 (.t 3)), c_ 3 17 8 [.t 16], a_ 5 19 (.ld true 9 (.t 2)), a_ 7 21 (.ld true 9 (.t 3)), c_ 4 18 13 [.t 15, .t 17], a_ 5 19 (.ld true 9 (.t 2)), a_ 7 21 (.ld true 9 (.t 3)), c_ 6 20 8 [.t 19], a_ 7 21 (.ld true 9 (.t 3)), c_ 8 22 14 [.t 20, .t 21], p_ 9 23 (.eqs false 1 .bool (.t 18) (.t 22)), p_ 10 24 (m_ 23), rg_ 11 25 24 true (.ld true 9 (.t 2)), rg_ 13 27 24 true (.ld true 9 (.t 2)), cg_ 12 26 24 true 8 [.t 25], ag_ 13 27 24 true (.ld true 9 (.t 2)), cg_ 14 28 24 true 8 [.t 27], cg_ 15 29 24 true 13 [.t 26, .t 28], p_ 16 30 (.pick (.t 24) (.t 29) (.c (.bool false))), p_ 17 31 (m_ 30), cg_ 18 32 31 true 6 [], p_ 19 33 (.pick (.t 31) (.t 32) (.c (.bool false))), p_ 20 4 (m_ 33)]) .ret)))
theorem ft_scriptSames_ok : chkF Tryd.prog 4 ft_scriptSames = true := by kernel_rfl
structure A_scriptSames where
 a : ScR
 b : ScR
noncomputable def I_scriptSames (p : A_scriptSames) : IE := ([.agg [.sy (.imm p.a.hg 3 GrR p.a.gs encG), .sy (.int 0 p.a.clients), .sy (.int 0 p.a.window), .sy (.int 0 p.a.deadline), .sy (.int 0 p.a.pace), .sy (.int 0 p.a.again), .sy (.int 0 p.a.bag), .sy (.int 4 p.a.first), .sy (.imm p.a.ho 9 OpR p.a.os encO)], .agg [.sy (.imm p.b.hg 3 GrR p.b.gs encG), .sy (.int 0 p.b.clients), .sy (.int 0 p.b.window), .sy (.int 0 p.b.deadline), .sy (.int 0 p.b.pace), .sy (.int 0 p.b.again), .sy (.int 0 p.b.bag), .sy (.int 4 p.b.first), .sy (.imm p.b.ho 9 OpR p.b.os encO)]], .leaf, 0)
noncomputable def out_scriptSames (p : A_scriptSames) (K : KE) : Bool := K (.bool true) .leaf 0
theorem vf_scriptSames (p : A_scriptSames) (K : KE) (hK : out_scriptSames p K = true) : (funE 0 (cfT nat_lsame) noLp 600 ft_scriptSames (I_scriptSames p).1 (I_scriptSames p).2.1 (I_scriptSames p).2.2 K) = true := by
 refine Eq.trans (b := (let z0 : Bool := (K (.bool true) .leaf 0); let z1 : Bool := (K (.bool false) .leaf 0); exB fun p1 : A_li24 => mP (([.sy (.imm p.a.ho 9 OpR p.a.os encO), .int 0 (.ofNat 60)], .leaf, 0) = I_li24 p1) (allB fun r1 : R_li24 => iP (po_li24 p1 r1) (iP (r1.q) (iP (¬ ((p.a.gs.length : Int) ≤ (10 : Int))) (exB fun p2 : A_knows => mP (([], .leaf, 0) = I_knows p2) z0) (exB fun p3 : A_li24 => mP (([.sy (.imm p.b.ho 9 OpR p.b.os encO), .int 0 (.ofNat 60)], .leaf, 0) = I_li24 p3) (allB fun r2 : R_li24 => iP (po_li24 p3 r2) (iP (r2.q) (iP (¬ ((p.b.gs.length : Int) ≤ (10 : Int))) (exB fun p4 : A_knows => mP (([], .leaf, 0) = I_knows p4) z0) (useC (([.agg [.sy (.imm p.a.hg 3 GrR p.a.gs encG), .sy (.int 0 p.a.clients), .sy (.int 0 p.a.window), .sy (.int 0 p.a.deadline), .sy (.int 0 p.a.pace), .sy (.int 0 p.a.again), .sy (.int 0 p.a.bag), .sy (.int 4 p.a.first), .sy (.imm p.a.ho 9 OpR p.a.os encO)]], .leaf, 0)) I_own pre_own po_own fun p5 r3 => must (Bool.and (prB (((.imm p.b.hg 3 GrR p.b.gs encG) : SY) = (.imm p.b.hg 3 GrR p.b.gs encG))) (Bool.and (prB (((.int 0 p.b.clients) : SY) = (.int 0 p.b.clients))) (Bool.and (prB (((.int 0 p.b.window) : SY) = (.int 0 p.b.window))) (Bool.and (prB (((.int 0 p.b.deadline) : SY) = (.int 0 p.b.deadline))) (Bool.and (prB (((.int 0 p.b.pace) : SY) = (.int 0 p.b.pace))) (Bool.and (prB (((.int 0 p.b.again) : SY) = (.int 0 p.b.again))) (Bool.and (prB (((.int 0 p.b.bag) : SY) = (.int 0 p.b.bag))) (Bool.and (prB (((.int 4 p.b.first) : SY) = (.int 4 p.b.first))) (Bool.and (prB (((.imm p.b.ho 9 OpR p.b.os encO) : SY) = (.imm p.b.ho 9 OpR p.b.os encO))) (true)))))))))) (must (Bool.and (prB (((.imm p.a.hg 3 GrR p.a.gs encG) : SY) = (.imm p.a.hg 3 GrR p.a.gs encG))) (Bool.and (prB (((.int 0 p.a.clients) : SY) = (.int 0 p.a.clients))) (Bool.and (prB (((.int 0 p.a.window) : SY) = (.int 0 p.a.window))) (Bool.and (prB (((.int 0 p.a.deadline) : SY) = (.int 0 p.a.deadline))) (Bool.and (prB (((.int 0 p.a.pace) : SY) = (.int 0 p.a.pace))) (Bool.and (prB (((.int 0 p.a.again) : SY) = (.int 0 p.a.again))) (Bool.and (prB (((.int 0 p.a.bag) : SY) = (.int 0 p.a.bag))) (Bool.and (prB (((.int 4 p.a.first) : SY) = (.int 4 p.a.first))) (Bool.and (prB (((.imm p.a.ho 9 OpR p.a.os encO) : SY) = (.imm p.a.ho 9 OpR p.a.os encO))) (true)))))))))) (must (Bool.and (prB (((.imm p.b.hg 3 GrR p.b.gs encG) : SY) = (.imm p.b.hg 3 GrR p.b.gs encG))) (Bool.and (prB (((.int 0 p.b.clients) : SY) = (.int 0 p.b.clients))) (Bool.and (prB (((.int 0 p.b.window) : SY) = (.int 0 p.b.window))) (Bool.and (prB (((.int 0 p.b.deadline) : SY) = (.int 0 p.b.deadline))) (Bool.and (prB (((.int 0 p.b.pace) : SY) = (.int 0 p.b.pace))) (Bool.and (prB (((.int 0 p.b.again) : SY) = (.int 0 p.b.again))) (Bool.and (prB (((.int 0 p.b.bag) : SY) = (.int 0 p.b.bag))) (Bool.and (prB (((.int 4 p.b.first) : SY) = (.int 4 p.b.first))) (Bool.and (prB (((.imm p.b.ho 9 OpR p.b.os encO) : SY) = (.imm p.b.ho 9 OpR p.b.os encO))) (true)))))))))) (useC (([.agg [.sy (.imm p.b.hg 3 GrR p.b.gs encG), .sy (.int 0 p.b.clients), .sy (.int 0 p.b.window), .sy (.int 0 p.b.deadline), .sy (.int 0 p.b.pace), .sy (.int 0 p.b.again), .sy (.int 0 p.b.bag), .sy (.int 4 p.b.first), .sy (.imm p.b.ho 9 OpR p.b.os encO)]], .leaf, 0)) I_own pre_own po_own fun p6 r4 => must (Bool.and (prB (((.imm p.a.hg 3 GrR p.a.gs encG) : SY) = (.imm p.a.hg 3 GrR p.a.gs encG))) (Bool.and (prB (((.int 0 p.a.clients) : SY) = (.int 0 p.a.clients))) (Bool.and (prB (((.int 0 p.a.window) : SY) = (.int 0 p.a.window))) (Bool.and (prB (((.int 0 p.a.deadline) : SY) = (.int 0 p.a.deadline))) (Bool.and (prB (((.int 0 p.a.pace) : SY) = (.int 0 p.a.pace))) (Bool.and (prB (((.int 0 p.a.again) : SY) = (.int 0 p.a.again))) (Bool.and (prB (((.int 0 p.a.bag) : SY) = (.int 0 p.a.bag))) (Bool.and (prB (((.int 4 p.a.first) : SY) = (.int 4 p.a.first))) (Bool.and (prB (((.imm p.a.ho 9 OpR p.a.os encO) : SY) = (.imm p.a.ho 9 OpR p.a.os encO))) (true)))))))))) (must (Bool.and (prB (((.imm p.b.hg 3 GrR p.b.gs encG) : SY) = (.imm p.b.hg 3 GrR p.b.gs encG))) (Bool.and (prB (((.int 0 p.b.clients) : SY) = (.int 0 p.b.clients))) (Bool.and (prB (((.int 0 p.b.window) : SY) = (.int 0 p.b.window))) (Bool.and (prB (((.int 0 p.b.deadline) : SY) = (.int 0 p.b.deadline))) (Bool.and (prB (((.int 0 p.b.pace) : SY) = (.int 0 p.b.pace))) (Bool.and (prB (((.int 0 p.b.again) : SY) = (.int 0 p.b.again))) (Bool.and (prB (((.int 0 p.b.bag) : SY) = (.int 0 p.b.bag))) (Bool.and (prB (((.int 4 p.b.first) : SY) = (.int 4 p.b.first))) (Bool.and (prB (((.imm p.b.ho 9 OpR p.b.os encO) : SY) = (.imm p.b.ho 9 OpR p.b.os encO))) (true)))))))))) (useC (([.agg [.sy (.imm r3.t.hg 3 GrR r3.t.gs encG), .sy (.int 0 r3.t.clients), .sy (.int 0 r3.t.window), .sy (.int 0 r3.t.deadline), .sy (.int 0 r3.t.pace), .sy (.int 0 r3.t.again), .sy (.int 0 r3.t.bag), .sy (.int 4 r3.t.first), .sy (.imm r3.t.ho 9 OpR r3.t.os encO)], .agg [.sy (.imm r4.t.hg 3 GrR r4.t.gs encG), .sy (.int 0 r4.t.clients), .sy (.int 0 r4.t.window), .sy (.int 0 r4.t.deadline), .sy (.int 0 r4.t.pace), .sy (.int 0 r4.t.again), .sy (.int 0 r4.t.bag), .sy (.int 4 r4.t.first), .sy (.imm r4.t.ho 9 OpR r4.t.os encO)]], .leaf, 0)) I_same13 pre_same13 po_same13 fun p7 r5 => must (Bool.and (prB (((.imm p.a.hg 3 GrR p.a.gs encG) : SY) = (.imm p.a.hg 3 GrR p.a.gs encG))) (Bool.and (prB (((.int 0 p.a.clients) : SY) = (.int 0 p.a.clients))) (Bool.and (prB (((.int 0 p.a.window) : SY) = (.int 0 p.a.window))) (Bool.and (prB (((.int 0 p.a.deadline) : SY) = (.int 0 p.a.deadline))) (Bool.and (prB (((.int 0 p.a.pace) : SY) = (.int 0 p.a.pace))) (Bool.and (prB (((.int 0 p.a.again) : SY) = (.int 0 p.a.again))) (Bool.and (prB (((.int 0 p.a.bag) : SY) = (.int 0 p.a.bag))) (Bool.and (prB (((.int 4 p.a.first) : SY) = (.int 4 p.a.first))) (Bool.and (prB (((.imm p.a.ho 9 OpR p.a.os encO) : SY) = (.imm p.a.ho 9 OpR p.a.os encO))) (true)))))))))) (must (Bool.and (prB (((.imm p.b.hg 3 GrR p.b.gs encG) : SY) = (.imm p.b.hg 3 GrR p.b.gs encG))) (Bool.and (prB (((.int 0 p.b.clients) : SY) = (.int 0 p.b.clients))) (Bool.and (prB (((.int 0 p.b.window) : SY) = (.int 0 p.b.window))) (Bool.and (prB (((.int 0 p.b.deadline) : SY) = (.int 0 p.b.deadline))) (Bool.and (prB (((.int 0 p.b.pace) : SY) = (.int 0 p.b.pace))) (Bool.and (prB (((.int 0 p.b.again) : SY) = (.int 0 p.b.again))) (Bool.and (prB (((.int 0 p.b.bag) : SY) = (.int 0 p.b.bag))) (Bool.and (prB (((.int 4 p.b.first) : SY) = (.int 4 p.b.first))) (Bool.and (prB (((.imm p.b.ho 9 OpR p.b.os encO) : SY) = (.imm p.b.ho 9 OpR p.b.os encO))) (true)))))))))) (useC (([.agg [.sy (.imm p.a.hg 3 GrR p.a.gs encG), .sy (.int 0 p.a.clients), .sy (.int 0 p.a.window), .sy (.int 0 p.a.deadline), .sy (.int 0 p.a.pace), .sy (.int 0 p.a.again), .sy (.int 0 p.a.bag), .sy (.int 4 p.a.first), .sy (.imm p.a.ho 9 OpR p.a.os encO)]], .leaf, 0)) I_own pre_own po_own fun p8 r6 => must (Bool.and (prB (((.imm p.b.hg 3 GrR p.b.gs encG) : SY) = (.imm p.b.hg 3 GrR p.b.gs encG))) (Bool.and (prB (((.int 0 p.b.clients) : SY) = (.int 0 p.b.clients))) (Bool.and (prB (((.int 0 p.b.window) : SY) = (.int 0 p.b.window))) (Bool.and (prB (((.int 0 p.b.deadline) : SY) = (.int 0 p.b.deadline))) (Bool.and (prB (((.int 0 p.b.pace) : SY) = (.int 0 p.b.pace))) (Bool.and (prB (((.int 0 p.b.again) : SY) = (.int 0 p.b.again))) (Bool.and (prB (((.int 0 p.b.bag) : SY) = (.int 0 p.b.bag))) (Bool.and (prB (((.int 4 p.b.first) : SY) = (.int 4 p.b.first))) (Bool.and (prB (((.imm p.b.ho 9 OpR p.b.os encO) : SY) = (.imm p.b.ho 9 OpR p.b.os encO))) (true)))))))))) (useC (([.agg [.sy (.imm r6.t.hg 3 GrR r6.t.gs encG), .sy (.int 0 r6.t.clients), .sy (.int 0 r6.t.window), .sy (.int 0 r6.t.deadline), .sy (.int 0 r6.t.pace), .sy (.int 0 r6.t.again), .sy (.int 0 r6.t.bag), .sy (.int 4 r6.t.first), .sy (.imm r6.t.ho 9 OpR r6.t.os encO)], .agg [.sy (.imm p.b.hg 3 GrR p.b.gs encG), .sy (.int 0 p.b.clients), .sy (.int 0 p.b.window), .sy (.int 0 p.b.deadline), .sy (.int 0 p.b.pace), .sy (.int 0 p.b.again), .sy (.int 0 p.b.bag), .sy (.int 4 p.b.first), .sy (.imm p.b.ho 9 OpR p.b.os encO)]], .leaf, 0)) I_lsame pre_lsame po_lsame fun p9 r7 => iP (r5.q) (iP (r7.q) (useC (([.agg [.sy (.imm p.a.hg 3 GrR p.a.gs encG), .sy (.int 0 p.a.clients), .sy (.int 0 p.a.window), .sy (.int 0 p.a.deadline), .sy (.int 0 p.a.pace), .sy (.int 0 p.a.again), .sy (.int 0 p.a.bag), .sy (.int 4 p.a.first), .sy (.imm p.a.ho 9 OpR p.a.os encO)]], .leaf, 0)) I_own pre_own po_own fun p10 r8 => must (Bool.and (prB (((.imm p.a.hg 3 GrR p.a.gs encG) : SY) = (.imm p.a.hg 3 GrR p.a.gs encG))) (Bool.and (prB (((.int 0 p.a.clients) : SY) = (.int 0 p.a.clients))) (Bool.and (prB (((.int 0 p.a.window) : SY) = (.int 0 p.a.window))) (Bool.and (prB (((.int 0 p.a.deadline) : SY) = (.int 0 p.a.deadline))) (Bool.and (prB (((.int 0 p.a.pace) : SY) = (.int 0 p.a.pace))) (Bool.and (prB (((.int 0 p.a.again) : SY) = (.int 0 p.a.again))) (Bool.and (prB (((.int 0 p.a.bag) : SY) = (.int 0 p.a.bag))) (Bool.and (prB (((.int 4 p.a.first) : SY) = (.int 4 p.a.first))) (Bool.and (prB (((.imm p.a.ho 9 OpR p.a.os encO) : SY) = (.imm p.a.ho 9 OpR p.a.os encO))) (true)))))))))) (useC (([.agg [.sy (.imm p.a.hg 3 GrR p.a.gs encG), .sy (.int 0 p.a.clients), .sy (.int 0 p.a.window), .sy (.int 0 p.a.deadline), .sy (.int 0 p.a.pace), .sy (.int 0 p.a.again), .sy (.int 0 p.a.bag), .sy (.int 4 p.a.first), .sy (.imm p.a.ho 9 OpR p.a.os encO)]], .leaf, 0)) I_own pre_own po_own fun p11 r9 => useC (([.agg [.sy (.imm r8.t.hg 3 GrR r8.t.gs encG), .sy (.int 0 r8.t.clients), .sy (.int 0 r8.t.window), .sy (.int 0 r8.t.deadline), .sy (.int 0 r8.t.pace), .sy (.int 0 r8.t.again), .sy (.int 0 r8.t.bag), .sy (.int 4 r8.t.first), .sy (.imm r8.t.ho 9 OpR r8.t.os encO)], .agg [.sy (.imm r9.t.hg 3 GrR r9.t.gs encG), .sy (.int 0 r9.t.clients), .sy (.int 0 r9.t.window), .sy (.int 0 r9.t.deadline), .sy (.int 0 r9.t.pace), .sy (.int 0 r9.t.again), .sy (.int 0 r9.t.bag), .sy (.int 4 r9.t.first), .sy (.imm r9.t.ho 9 OpR r9.t.os encO)]], .leaf, 0)) I_same13 pre_same13 po_same13 fun p12 r10 => iP (r10.q) (exB fun p13 : A_knows => mP (([], .leaf, 0) = I_knows p13) z0) z1)) z1) (iP (r7.q) z1 (useC (([.agg [.sy (.imm p.a.hg 3 GrR p.a.gs encG), .sy (.int 0 p.a.clients), .sy (.int 0 p.a.window), .sy (.int 0 p.a.deadline), .sy (.int 0 p.a.pace), .sy (.int 0 p.a.again), .sy (.int 0 p.a.bag), .sy (.int 4 p.a.first), .sy (.imm p.a.ho 9 OpR p.a.os encO)]], .leaf, 0)) I_own pre_own po_own fun p14 r11 => must (Bool.and (prB (((.imm p.a.hg 3 GrR p.a.gs encG) : SY) = (.imm p.a.hg 3 GrR p.a.gs encG))) (Bool.and (prB (((.int 0 p.a.clients) : SY) = (.int 0 p.a.clients))) (Bool.and (prB (((.int 0 p.a.window) : SY) = (.int 0 p.a.window))) (Bool.and (prB (((.int 0 p.a.deadline) : SY) = (.int 0 p.a.deadline))) (Bool.and (prB (((.int 0 p.a.pace) : SY) = (.int 0 p.a.pace))) (Bool.and (prB (((.int 0 p.a.again) : SY) = (.int 0 p.a.again))) (Bool.and (prB (((.int 0 p.a.bag) : SY) = (.int 0 p.a.bag))) (Bool.and (prB (((.int 4 p.a.first) : SY) = (.int 4 p.a.first))) (Bool.and (prB (((.imm p.a.ho 9 OpR p.a.os encO) : SY) = (.imm p.a.ho 9 OpR p.a.os encO))) (true)))))))))) (useC (([.agg [.sy (.imm p.a.hg 3 GrR p.a.gs encG), .sy (.int 0 p.a.clients), .sy (.int 0 p.a.window), .sy (.int 0 p.a.deadline), .sy (.int 0 p.a.pace), .sy (.int 0 p.a.again), .sy (.int 0 p.a.bag), .sy (.int 4 p.a.first), .sy (.imm p.a.ho 9 OpR p.a.os encO)]], .leaf, 0)) I_own pre_own po_own fun p15 r12 => useC (([.agg [.sy (.imm r11.t.hg 3 GrR r11.t.gs encG), .sy (.int 0 r11.t.clients), .sy (.int 0 r11.t.window), .sy (.int 0 r11.t.deadline), .sy (.int 0 r11.t.pace), .sy (.int 0 r11.t.again), .sy (.int 0 r11.t.bag), .sy (.int 4 r11.t.first), .sy (.imm r11.t.ho 9 OpR r11.t.os encO)], .agg [.sy (.imm r12.t.hg 3 GrR r12.t.gs encG), .sy (.int 0 r12.t.clients), .sy (.int 0 r12.t.window), .sy (.int 0 r12.t.deadline), .sy (.int 0 r12.t.pace), .sy (.int 0 r12.t.again), .sy (.int 0 r12.t.bag), .sy (.int 4 r12.t.first), .sy (.imm r12.t.ho 9 OpR r12.t.os encO)]], .leaf, 0)) I_same13 pre_same13 po_same13 fun p16 r13 => iP (r13.q) (exB fun p17 : A_knows => mP (([], .leaf, 0) = I_knows p17) z0) z1))))))))))))) (exB fun p18 : A_knows => mP (([], .leaf, 0) = I_knows p18) z0)) true))) (exB fun p19 : A_knows => mP (([], .leaf, 0) = I_knows p19) z0)) true))) (by kernel_rfl) ?_
 refine callR (⟨p.a.ho, p.a.os⟩ : A_li24) rfl fun r1 hi1 => ?_
 dsimp only [po_li24] at hi1
 refine iI (fun hc2 => ?_) (fun hc2 => ?_)
 refine iI (fun hc3 => ?_) (fun hc3 => ?_)
 refine exB_mk ⟨⟩ ?_
 refine mI (rfl) ?_
 exact hK
 refine callR (⟨p.b.ho, p.b.os⟩ : A_li24) rfl fun r2 hi4 => ?_
 dsimp only [po_li24] at hi4
 refine iI (fun hc5 => ?_) (fun hc5 => ?_)
 refine iI (fun hc6 => ?_) (fun hc6 => ?_)
 refine exB_mk ⟨⟩ ?_
 refine mI (rfl) ?_
 exact hK
 refine callPR (⟨p.a⟩ : A_own) rfl (by (try dsimp only [pre_own]); exact ⟨(by first | assumption | exact okO_via (by assumption) (by assumption) (by assumption) | exact (by assumption : _ → okO _) (by assumption)), (by first | omega | exact gs_via (by assumption) (by omega))⟩) fun r3 hi7 => ?_
 dsimp only [po_own] at hi7
 refine must_mk (by simp [prB]) ?_
 refine must_mk (by simp [prB]) ?_
 refine must_mk (by simp [prB]) ?_
 refine callPR (⟨p.b⟩ : A_own) rfl (by (try dsimp only [pre_own]); exact ⟨(by first | assumption | exact okO_via (by assumption) (by assumption) (by assumption) | exact (by assumption : _ → okO _) (by assumption)), (by first | omega | exact gs_via (by assumption) (by omega))⟩) fun r4 hi8 => ?_
 dsimp only [po_own] at hi8
 refine must_mk (by simp [prB]) ?_
 refine must_mk (by simp [prB]) ?_
 refine callPR (⟨r3.t, r4.t⟩ : A_same13) rfl (by (try dsimp only [pre_same13]); exact ⟨(by first | assumption | exact okO_via (by assumption) (by assumption) (by assumption) | exact (by assumption : _ → okO _) (by assumption)), (by first | assumption | exact okO_via (by assumption) (by assumption) (by assumption) | exact (by assumption : _ → okO _) (by assumption)), (by first | omega | exact gs_via (by assumption) (by omega)), (by first | omega | exact gs_via (by assumption) (by omega))⟩) fun r5 hi9 => ?_
 dsimp only [po_same13] at hi9
 refine must_mk (by simp [prB]) ?_
 refine must_mk (by simp [prB]) ?_
 refine callPR (⟨p.a⟩ : A_own) rfl (by (try dsimp only [pre_own]); exact ⟨(by first | assumption | exact okO_via (by assumption) (by assumption) (by assumption) | exact (by assumption : _ → okO _) (by assumption)), (by first | omega | exact gs_via (by assumption) (by omega))⟩) fun r6 hi10 => ?_
 dsimp only [po_own] at hi10
 refine must_mk (by simp [prB]) ?_
 refine callPR (⟨r6.t, p.b⟩ : A_lsame) rfl (by (try dsimp only [pre_lsame]); exact ⟨(by first | assumption | exact okO_via (by assumption) (by assumption) (by assumption) | exact (by assumption : _ → okO _) (by assumption)), (by first | assumption | exact okO_via (by assumption) (by assumption) (by assumption) | exact (by assumption : _ → okO _) (by assumption)), (by first | omega | exact gs_via (by assumption) (by omega)), (by first | omega | exact gs_via (by assumption) (by omega))⟩) fun r7 hi11 => ?_
 dsimp only [po_lsame] at hi11
 refine iI (fun hc12 => ?_) (fun hc12 => ?_)
 refine iI (fun hc13 => ?_) (fun hc13 => ?_)
 refine callPR (⟨p.a⟩ : A_own) rfl (by (try dsimp only [pre_own]); exact ⟨(by first | assumption | exact okO_via (by assumption) (by assumption) (by assumption) | exact (by assumption : _ → okO _) (by assumption)), (by first | omega | exact gs_via (by assumption) (by omega))⟩) fun r8 hi14 => ?_
 dsimp only [po_own] at hi14
 refine must_mk (by simp [prB]) ?_
 refine callPR (⟨p.a⟩ : A_own) rfl (by (try dsimp only [pre_own]); exact ⟨(by first | assumption | exact okO_via (by assumption) (by assumption) (by assumption) | exact (by assumption : _ → okO _) (by assumption)), (by first | omega | exact gs_via (by assumption) (by omega))⟩) fun r9 hi15 => ?_
 dsimp only [po_own] at hi15
 refine callPR (⟨r8.t, r9.t⟩ : A_same13) rfl (by (try dsimp only [pre_same13]); exact ⟨(by first | assumption | exact okO_via (by assumption) (by assumption) (by assumption) | exact (by assumption : _ → okO _) (by assumption)), (by first | assumption | exact okO_via (by assumption) (by assumption) (by assumption) | exact (by assumption : _ → okO _) (by assumption)), (by first | omega | exact gs_via (by assumption) (by omega)), (by first | omega | exact gs_via (by assumption) (by omega))⟩) fun r10 hi16 => ?_
 dsimp only [po_same13] at hi16
 refine iI (fun hc17 => ?_) (fun hc17 => ?_)
 refine exB_mk ⟨⟩ ?_
 refine mI (rfl) ?_
 exact hK
 exfalso; simp_all
 exfalso; simp_all
 refine iI (fun hc18 => ?_) (fun hc18 => ?_)
 exfalso; simp_all
 refine callPR (⟨p.a⟩ : A_own) rfl (by (try dsimp only [pre_own]); exact ⟨(by first | assumption | exact okO_via (by assumption) (by assumption) (by assumption) | exact (by assumption : _ → okO _) (by assumption)), (by first | omega | exact gs_via (by assumption) (by omega))⟩) fun r11 hi19 => ?_
 dsimp only [po_own] at hi19
 refine must_mk (by simp [prB]) ?_
 refine callPR (⟨p.a⟩ : A_own) rfl (by (try dsimp only [pre_own]); exact ⟨(by first | assumption | exact okO_via (by assumption) (by assumption) (by assumption) | exact (by assumption : _ → okO _) (by assumption)), (by first | omega | exact gs_via (by assumption) (by omega))⟩) fun r12 hi20 => ?_
 dsimp only [po_own] at hi20
 refine callPR (⟨r11.t, r12.t⟩ : A_same13) rfl (by (try dsimp only [pre_same13]); exact ⟨(by first | assumption | exact okO_via (by assumption) (by assumption) (by assumption) | exact (by assumption : _ → okO _) (by assumption)), (by first | assumption | exact okO_via (by assumption) (by assumption) (by assumption) | exact (by assumption : _ → okO _) (by assumption)), (by first | omega | exact gs_via (by assumption) (by omega)), (by first | omega | exact gs_via (by assumption) (by omega))⟩) fun r13 hi21 => ?_
 dsimp only [po_same13] at hi21
 refine iI (fun hc22 => ?_) (fun hc22 => ?_)
 refine exB_mk ⟨⟩ ?_
 refine mI (rfl) ?_
 exact hK
 exfalso; simp_all
 refine exB_mk ⟨⟩ ?_
 refine mI (rfl) ?_
 exact hK
 refine exB_mk ⟨⟩ ?_
 refine mI (rfl) ?_
 exact hK
theorem na_scriptSames : NatE Tryd.prog 4 0 (esOf I_scriptSames out_scriptSames) := (natE_pn (f := 4) (k := 0) (cfT_ok nat_lsame_ok) ft_scriptSames_ok (by rfl) (by rfl) vf_scriptSames)
end Go.Proofs.Tryd
namespace Go.Proofs.YtdangmomddpegaaDoor.scriptSames
open Go Go.RowKit Go.Eng Go.Sy Go.ChangeShapes Go.WideShapes Go.ChangeAt
open Go.Proofs.Tryd (PtR GrR OpR ScR encG encO)
set_option linter.unusedVariables false
set_option maxRecDepth 100000
theorem prB_eq (b : Bool) : prB (b = true) = b := by cases b <;> simp [prB]
theorem leafs111 : Leafs Tryd.prog 20 111 = some [5, 5, 9, 9, 2] := by kernel_rfl
theorem open_P {H : Type} {en : TypeId × Value → H} {W : World} {fuel : Nat} {cs : List Value} {x : DataW H × List MemPlace} (h : DataW.trod en Tryd.prog W 0 (fun _ => true) true fuel 67 cs = some x) :
  ∃ (ao : Option Addr) (cap : Nat) (t : List PtR), cs = [.slice ao t.length cap] ∧ OkP (GS.of W).M (.imm (.slice ao t.length cap) 5 PtR t Go.Proofs.Tryd.encP) := by
 rcases Go.Deep.open_slice Tryd.underlying67 h with ⟨rfl, _⟩ | ⟨a, len, cap, m, n, D, Pl, rfl, _, hl, hm, rfl, _, hel⟩
 ·exact ⟨none, 0, [], rfl, .imm none 0 rfl (by simp) (by decide) (by decide) (fun q => by simp at q) (fun x hx => by simp at hx) (fun x hx => by simp at hx) (fun i x hx => by simp at hx)⟩
 ·obtain ⟨t, ht, hp⟩ := list_of (p := fun i (x : PtR) => W.cells? 0 (a.add (i * 5)) 5 = some ((Go.Proofs.Tryd.encP x).map valP) ∧ (∀ q ∈ Go.Proofs.Tryd.encP x, OkP (GS.of W).M q)) len (fun i hi => by
   obtain ⟨cs2, h1, h2⟩ := hel i (by first | omega | (simp; omega))
   obtain ⟨hlen, hleaf⟩ := leafs_trod 20 111 _ leafs111 _ _ _ h2
   obtain ⟨c0, c1, c2, c3, c4, rfl⟩ : ∃ c0 c1 c2 c3 c4, cs2 = [c0, c1, c2, c3, c4] := by
    match cs2, hlen with
    | [c0, c1, c2, c3, c4], _ => exact ⟨c0, c1, c2, c3, c4, rfl⟩
   obtain ⟨z0, rfl, wz0⟩ := leaf_int Tryd.underlying5 (hleaf 0 _ _ rfl rfl)
   obtain ⟨z1, rfl, wz1⟩ := leaf_int Tryd.underlying5 (hleaf 1 _ _ rfl rfl)
   obtain ⟨z2, rfl, wz2⟩ := leaf_str Tryd.underlying9 (hleaf 2 _ _ rfl rfl)
   obtain ⟨z3, rfl, wz3⟩ := leaf_str Tryd.underlying9 (hleaf 3 _ _ rfl rfl)
   obtain ⟨z4, rfl, wz4⟩ := leaf_int Tryd.underlying2 (hleaf 4 _ _ rfl rfl)
   refine ⟨⟨z0, z1, z2, z3, z4⟩, ?_, ?_⟩
   ·exact h1
   ·intro q hq; simp only [Go.Proofs.Tryd.encP, List.mem_cons, List.not_mem_nil, or_false] at hq
    rcases hq with rfl | rfl | rfl | rfl | rfl <;> first | exact .sint _ _ | exact .sstr _ | exact .sbool _)
  subst ht
  have r := rdf_of (base := 0) (en := fun x => (Go.Proofs.Tryd.encP x).map valP) (w := W) hl hm (by decide) (fun _ => rfl) (fun i x hx => (hp i x hx).1)
  exact ⟨some a, _, t, rfl, .imm (some a) _ rfl r.le r.cap (by decide) r.addr (fun x _ => rfl) (fun x hx => by
   obtain ⟨i, hi⟩ := List.mem_iff_getElem?.1 hx
   exact (hp i x hi).2) r.row⟩
theorem leafs83 : Leafs Tryd.prog 20 83 = some [3, 3, 4] := by kernel_rfl
theorem open_G {H : Type} {en : TypeId × Value → H} {W : World} {fuel : Nat} {cs : List Value} {x : DataW H × List MemPlace} (h : DataW.trod en Tryd.prog W 0 (fun _ => true) true fuel 22 cs = some x) :
  ∃ (ao : Option Addr) (cap : Nat) (t : List GrR), cs = [.slice ao t.length cap] ∧ OkP (GS.of W).M (.imm (.slice ao t.length cap) 3 GrR t encG) := by
 rcases Go.Deep.open_slice Tryd.underlying22 h with ⟨rfl, _⟩ | ⟨a, len, cap, m, n, D, Pl, rfl, _, hl, hm, rfl, _, hel⟩
 ·exact ⟨none, 0, [], rfl, .imm none 0 rfl (by simp) (by decide) (by decide) (fun q => by simp at q) (fun x hx => by simp at hx) (fun x hx => by simp at hx) (fun i x hx => by simp at hx)⟩
 ·obtain ⟨t, ht, hp⟩ := list_of (p := fun i (x : GrR) => W.cells? 0 (a.add (i * 3)) 3 = some ((encG x).map valP) ∧ (∀ q ∈ encG x, OkP (GS.of W).M q)) len (fun i hi => by
   obtain ⟨cs2, h1, h2⟩ := hel i (by first | omega | (simp; omega))
   obtain ⟨hlen, hleaf⟩ := leafs_trod 20 83 _ leafs83 _ _ _ h2
   obtain ⟨c0, c1, c2, rfl⟩ : ∃ c0 c1 c2, cs2 = [c0, c1, c2] := by
    match cs2, hlen with
    | [c0, c1, c2], _ => exact ⟨c0, c1, c2, rfl⟩
   obtain ⟨z0, rfl, wz0⟩ := leaf_int Tryd.underlying3 (hleaf 0 _ _ rfl rfl)
   obtain ⟨z1, rfl, wz1⟩ := leaf_int Tryd.underlying3 (hleaf 1 _ _ rfl rfl)
   obtain ⟨z2, rfl⟩ := leaf_bool Tryd.underlying4 (hleaf 2 _ _ rfl rfl)
   refine ⟨⟨z0, z1, z2 = true⟩, ?_, ?_⟩
   ·refine Eq.trans h1 ?_; simp only [encG, List.map_cons, List.map_nil, valP, kOf, prB_eq]
   ·intro q hq; simp only [encG, List.mem_cons, List.not_mem_nil, or_false] at hq
    rcases hq with rfl | rfl | rfl <;> first | exact .sint _ _ | exact .sstr _ | exact .sbool _)
  subst ht
  have r := rdf_of (base := 0) (en := fun x => (encG x).map valP) (w := W) hl hm (by decide) (fun _ => rfl) (fun i x hx => (hp i x hx).1)
  exact ⟨some a, _, t, rfl, .imm (some a) _ rfl r.le r.cap (by decide) r.addr (fun x _ => rfl) (fun x hx => by
   obtain ⟨i, hi⟩ := List.mem_iff_getElem?.1 hx
   exact (hp i x hi).2) r.row⟩
theorem leafs69 : Leafs Tryd.prog 20 69 = some [3, 3, 3, 3, 3, 3, 49, 5, 67] := by kernel_rfl
theorem open_O {H : Type} {en : TypeId × Value → H} {W : World} {fuel : Nat} {cs : List Value} {x : DataW H × List MemPlace} (h : DataW.trod en Tryd.prog W 0 (fun _ => true) true fuel 26 cs = some x) :
  ∃ (ao : Option Addr) (cap : Nat) (t : List OpR), cs = [.slice ao t.length cap] ∧ OkP (GS.of W).M (.imm (.slice ao t.length cap) 9 OpR t encO) := by
 rcases Go.Deep.open_slice Tryd.underlying26 h with ⟨rfl, _⟩ | ⟨a, len, cap, m, n, D, Pl, rfl, _, hl, hm, rfl, _, hel⟩
 ·exact ⟨none, 0, [], rfl, .imm none 0 rfl (by simp) (by decide) (by decide) (fun q => by simp at q) (fun x hx => by simp at hx) (fun x hx => by simp at hx) (fun i x hx => by simp at hx)⟩
 ·obtain ⟨t, ht, hp⟩ := list_of (p := fun i (x : OpR) => W.cells? 0 (a.add (i * 9)) 9 = some ((encO x).map valP) ∧ (∀ q ∈ encO x, OkP (GS.of W).M q)) len (fun i hi => by
   obtain ⟨cs2, h1, h2⟩ := hel i (by first | omega | (simp; omega))
   obtain ⟨hlen, hleaf⟩ := leafs_trod 20 69 _ leafs69 _ _ _ h2
   obtain ⟨c0, c1, c2, c3, c4, c5, c6, c7, c8, rfl⟩ : ∃ c0 c1 c2 c3 c4 c5 c6 c7 c8, cs2 = [c0, c1, c2, c3, c4, c5, c6, c7, c8] := by
    match cs2, hlen with
    | [c0, c1, c2, c3, c4, c5, c6, c7, c8], _ => exact ⟨c0, c1, c2, c3, c4, c5, c6, c7, c8, rfl⟩
   obtain ⟨z0, rfl, wz0⟩ := leaf_int Tryd.underlying3 (hleaf 0 _ _ rfl rfl)
   obtain ⟨z1, rfl, wz1⟩ := leaf_int Tryd.underlying3 (hleaf 1 _ _ rfl rfl)
   obtain ⟨z2, rfl, wz2⟩ := leaf_int Tryd.underlying3 (hleaf 2 _ _ rfl rfl)
   obtain ⟨z3, rfl, wz3⟩ := leaf_int Tryd.underlying3 (hleaf 3 _ _ rfl rfl)
   obtain ⟨z4, rfl, wz4⟩ := leaf_int Tryd.underlying3 (hleaf 4 _ _ rfl rfl)
   obtain ⟨z5, rfl, wz5⟩ := leaf_int Tryd.underlying3 (hleaf 5 _ _ rfl rfl)
   obtain ⟨z6, rfl, wz6⟩ := leaf_int Tryd.underlying49 (hleaf 6 _ _ rfl rfl)
   obtain ⟨z7, rfl, wz7⟩ := leaf_int Tryd.underlying5 (hleaf 7 _ _ rfl rfl)
   obtain ⟨_, _, hs8⟩ := hleaf 8 _ _ rfl rfl
   obtain ⟨ao8, cap8, t8, e8, ok8⟩ := open_P hs8
   obtain rfl : c8 = _ := by simpa using e8
   refine ⟨⟨z0, z1, z2, z3, z4, z5, z6, z7, .slice ao8 t8.length cap8, t8⟩, ?_, ?_⟩
   ·exact h1
   ·intro q hq; simp only [encO, List.mem_cons, List.not_mem_nil, or_false] at hq
    rcases hq with rfl | rfl | rfl | rfl | rfl | rfl | rfl | rfl | rfl <;> first | exact .sint _ _ | exact .sstr _ | exact .sbool _ | exact ok8)
  subst ht
  have r := rdf_of (base := 0) (en := fun x => (encO x).map valP) (w := W) hl hm (by decide) (fun _ => rfl) (fun i x hx => (hp i x hx).1)
  exact ⟨some a, _, t, rfl, .imm (some a) _ rfl r.le r.cap (by decide) r.addr (fun x _ => rfl) (fun x hx => by
   obtain ⟨i, hi⟩ := List.mem_iff_getElem?.1 hx
   exact (hp i x hi).2) r.row⟩
theorem leafsS : Leafs Tryd.prog 20 28 = some [22, 3, 3, 3, 3, 3, 3, 23, 26] := by kernel_rfl
theorem own : ownKnob Tryd.prog.godebug = none := by kernel_rfl
theorem laidOut : laidOutB Tryd.prog = true := by kernel_rfl
theorem tied_of_laid {W : World} (h : laidMet Tryd.prog Rows.scriptSamesRow.laid W) : Tied (GS.of W).M := by
 obtain ⟨ps, h, _⟩ := h
 obtain ⟨_, _, _, _, _, _, _, _, _, _, h, _⟩ := h
 obtain ⟨_, _, _, _, _, _, _, _, _, _, h, _⟩ := h
 obtain ⟨g, t, cs, fuel, p, q, hg, ht, hvar, hd, _, _⟩ := h
 obtain rfl := Option.some.inj ((show Tryd.prog.globalNamed "internal/strconv.uint64pow10" = some 0 by kernel_rfl).symm.trans hg)
 obtain rfl := Option.some.inj ((show (Tryd.prog.globals[0]?).map (·.type) = some 142 by kernel_rfl).symm.trans ht)
 have e := Lib.cells_of_tab (zs := Lib.pow10Tab) (k := .u64) Tryd.underlying142 Tryd.underlying23 (by kernel_rfl) (by kernel_rfl) hd
 simp only [World.var?, hg, Option.bind_some] at hvar
 rcases hh : W.heap[0]? with _ | o
 ·simp [hh] at hvar
 ·cases o <;> simp [hh] at hvar
  rename_i c T fz
  subst hvar
  refine ⟨T, fz, ?_⟩
  simp only [GS.of, hh]
  rw [← e]
noncomputable def laidWorld (os : Os) : World :=
 let w0 := World.holding Tryd.prog os ⟨#[], #[], []⟩
 { w0 with heap := (((w0.heap.modify 2 fun
   | .cells _ t frozen => .cells #[.int .u8 0, .int .u8 1, .int .u8 28, .int .u8 2, .int .u8 29, .int .u8 14, .int .u8 24, .int .u8 3, .int .u8 30, .int .u8 22, .int .u8 20, .int .u8 15, .int .u8 25, .int .u8 17, .int .u8 4, .int .u8 8, .int .u8 31, .int .u8 27, .int .u8 13, .int .u8 23, .int .u8 21, .int .u8 19, .int .u8 16, .int .u8 7, .int .u8 26, .int .u8 12, .int .u8 18, .int .u8 6, .int .u8 11, .int .u8 5, .int .u8 10, .int .u8 9] t frozen
   | o => o).modify 3 fun
   | .cells _ t frozen => .cells #[.int .u8 0, .int .u8 1, .int .u8 56, .int .u8 2, .int .u8 57, .int .u8 49, .int .u8 28, .int .u8 3, .int .u8 61, .int .u8 58, .int .u8 42, .int .u8 50, .int .u8 38, .int .u8 29, .int .u8 17, .int .u8 4, .int .u8 62, .int .u8 47, .int .u8 59, .int .u8 36, .int .u8 45, .int .u8 43, .int .u8 51, .int .u8 22, .int .u8 53, .int .u8 39, .int .u8 33, .int .u8 30, .int .u8 24, .int .u8 18, .int .u8 12, .int .u8 5, .int .u8 63, .int .u8 55, .int .u8 48, .int .u8 27, .int .u8 60, .int .u8 41, .int .u8 37, .int .u8 16, .int .u8 46, .int .u8 35, .int .u8 44, .int .u8 21, .int .u8 52, .int .u8 32, .int .u8 23, .int .u8 11, .int .u8 54, .int .u8 26, .int .u8 40, .int .u8 15, .int .u8 34, .int .u8 20, .int .u8 31, .int .u8 10, .int .u8 25, .int .u8 14, .int .u8 19, .int .u8 9, .int .u8 13, .int .u8 8, .int .u8 7, .int .u8 6] t frozen
   | o => o).modify 0 fun
   | .cells _ t frozen => .cells #[.int .u64 1, .int .u64 10, .int .u64 100, .int .u64 1000, .int .u64 10000, .int .u64 100000, .int .u64 1000000, .int .u64 10000000, .int .u64 100000000, .int .u64 1000000000, .int .u64 10000000000, .int .u64 100000000000, .int .u64 1000000000000, .int .u64 10000000000000, .int .u64 100000000000000, .int .u64 1000000000000000, .int .u64 10000000000000000, .int .u64 100000000000000000, .int .u64 1000000000000000000, .int .u64 10000000000000000000] t frozen
   | o => o) }
theorem laidWorld_met (os : Os) (args : Array Value) : laidMet Tryd.prog Rows.scriptSamesRow.laid ((laidWorld os).forCall (fun _ _ => 0) ⟨#[], args, []⟩).memory :=
 laidMet_of_run' 8 (by kernel_rfl) (by kernel_rfl)
theorem walk (a b : ScR) (w : World) (ht : Tied (GS.of w).M) (oga : OkP (GS.of w).M (.imm a.hg 3 GrR a.gs encG)) (ooa : OkP (GS.of w).M (.imm a.ho 9 OpR a.os encO)) (ogb : OkP (GS.of w).M (.imm b.hg 3 GrR b.gs encG)) (oob : OkP (GS.of w).M (.imm b.ho 9 OpR b.os encO)) : Calls Tryd.prog 4 #[.agg #[a.hg, .int .i64 a.clients, .int .i64 a.window, .int .i64 a.deadline, .int .i64 a.pace, .int .i64 a.again, .int .i64 a.bag, .int .u64 a.first, a.ho], .agg #[b.hg, .int .i64 b.clients, .int .i64 b.window, .int .i64 b.deadline, .int .i64 b.pace, .int .i64 b.again, .int .i64 b.bag, .int .u64 b.first, b.ho]] w (Ret (GS.of w) [] fun _ v => v = .bool true) := by
 let K : AV → T → Nat → Bool := fun v _ _ => prB (v = .bool true)
 have hE : EOk ⟨fun _ => .bool true, (GS.of w).M⟩ := ⟨fun i => rfl, ht⟩
 have hd : denL ⟨fun _ => .bool true, (GS.of w).M⟩ (fun _ => none) [.agg [.sy (.imm a.hg 3 GrR a.gs encG), .sy (.int 0 a.clients), .sy (.int 0 a.window), .sy (.int 0 a.deadline), .sy (.int 0 a.pace), .sy (.int 0 a.again), .sy (.int 0 a.bag), .sy (.int 4 a.first), .sy (.imm a.ho 9 OpR a.os encO)], .agg [.sy (.imm b.hg 3 GrR b.gs encG), .sy (.int 0 b.clients), .sy (.int 0 b.window), .sy (.int 0 b.deadline), .sy (.int 0 b.pace), .sy (.int 0 b.again), .sy (.int 0 b.bag), .sy (.int 4 b.first), .sy (.imm b.ho 9 OpR b.os encO)]] = some [.agg #[a.hg, .int .i64 a.clients, .int .i64 a.window, .int .i64 a.deadline, .int .i64 a.pace, .int .i64 a.again, .int .i64 a.bag, .int .u64 a.first, a.ho], .agg #[b.hg, .int .i64 b.clients, .int .i64 b.window, .int .i64 b.deadline, .int .i64 b.pace, .int .i64 b.again, .int .i64 b.bag, .int .u64 b.first, b.ho]] := by
  simp only [denL, den, denS, denP_mk (E := ⟨fun _ => .bool true, (GS.of w).M⟩) oga, denP_mk (E := ⟨fun _ => .bool true, (GS.of w).M⟩) ooa, denP_mk (E := ⟨fun _ => .bool true, (GS.of w).M⟩) ogb, denP_mk (E := ⟨fun _ => .bool true, (GS.of w).M⟩) oob, valP, kOf]
 refine Tryd.na_scriptSames [.agg [.sy (.imm a.hg 3 GrR a.gs encG), .sy (.int 0 a.clients), .sy (.int 0 a.window), .sy (.int 0 a.deadline), .sy (.int 0 a.pace), .sy (.int 0 a.again), .sy (.int 0 a.bag), .sy (.int 4 a.first), .sy (.imm a.ho 9 OpR a.os encO)], .agg [.sy (.imm b.hg 3 GrR b.gs encG), .sy (.int 0 b.clients), .sy (.int 0 b.window), .sy (.int 0 b.deadline), .sy (.int 0 b.pace), .sy (.int 0 b.again), .sy (.int 0 b.bag), .sy (.int 4 b.first), .sy (.imm b.ho 9 OpR b.os encO)]] [.agg #[a.hg, .int .i64 a.clients, .int .i64 a.window, .int .i64 a.deadline, .int .i64 a.pace, .int .i64 a.again, .int .i64 a.bag, .int .u64 a.first, a.ho], .agg #[b.hg, .int .i64 b.clients, .int .i64 b.window, .int .i64 b.deadline, .int .i64 b.pace, .int .i64 b.again, .int .i64 b.bag, .int .u64 b.first, b.ho]] ⟨fun _ => .bool true, (GS.of w).M⟩ (fun _ => none) (GS.of w) [] .leaf 0 w K _ hE (Sim.start rfl (Holds.start w)) hd ?_ ?_
 ·exact exB_mk ⟨a, b⟩ (mustP rfl (prB_true.2 rfl))
 ·intro v M' nx' E' ρ' w' z hk h1 h2 h3 h4 h5
  obtain ⟨G', g1, g2, g3⟩ := h4.holds
  refine ⟨z, G', rfl, g1, g2, ?_⟩
  have := prB_true.1 hk
  subst this
  simpa [den] using h5.symm
theorem lifted (os : Os) (started : os.Started) (H : Type) (enc : TypeId × Value → H) :
  ReturnsInHanded {} Tryd.checked os 4 .any (fun w args => (Rows.scriptSamesSpec.pre enc Tryd.prog Tryd.f4 Rows.scriptSamesRow.domain false w args ∧ laidMet Tryd.prog Rows.scriptSamesRow.laid w) ∧ sizedMet enc Tryd.prog Tryd.f4 (OpenSpec.ofChange Rows.scriptSamesSpec) false w args)
   (Rows.scriptSamesSpec.post enc Tryd.prog Tryd.f4 false true false false) := by
 refine returnsInHanded_of_change_and (C := Tryd.checked) (X := fun w _ => laidMet Tryd.prog Rows.scriptSamesRow.laid w) (fun _ _ _ hh h => h.of_heap hh) own started (by kernel_rfl) Tryd.func4
  (ChangeSpec.witness_at (enc := enc) (C := Tryd.checked) (os := os) (X := fun w _ => laidMet Tryd.prog Rows.scriptSamesRow.laid w) false (laidWorld os) #[.agg #[.slice none 0 0, .int .i64 0, .int .i64 0, .int .i64 0, .int .i64 0, .int .i64 0, .int .i64 0, .int .u64 0, .slice none 0 0], .agg #[.slice none 0 0, .int .i64 0, .int .i64 0, .int .i64 0, .int .i64 0, .int .i64 0, .int .i64 0, .int .u64 0, .slice none 0 0]] 8 rfl (by kernel_rfl) (by kernel_rfl) (by kernel_rfl) (by kernel_rfl) (by kernel_rfl) (laidWorld_met os _)) ?_
 intro W base args ds gs before hval0 hW _ _ hL _
 have hval : ∀ (j : Nat) t v, Tryd.f4.params[j]? = some t → args[j]? = some v → Value.okWide Tryd.prog W .any base t v := hval0
 have hW' := hW
 obtain ⟨p, q, hA0, hV, rfl, hfz, hnd⟩ := hW
 have hA : DataW.TrodAll enc Tryd.prog W 0 (fun _ => true) true Tryd.f4.params.toList args.toList ds p := hA0
 rw [Tryd.params4] at hA hval
 obtain ⟨v0, vs0, d0, ds0, p0, q0, hargs0, rfl, rfl, h0, r0⟩ := trodAll_cons hA
 obtain ⟨v1, vs1, d1, ds1, p1, q1, hargs1, rfl, rfl, h1, r1⟩ := trodAll_cons r0
 obtain ⟨rfl, rfl, rfl⟩ := trodAll_nil r1
 subst hargs1
 obtain rfl : args = #[v0, v1] := by cases args; simp_all
 obtain ⟨rfl, rfl⟩ := trodVars_none hV
 obtain ⟨cs0, rfl, hsz0⟩ := okWide_struct Tryd.underlying28 (hval 0 28 v0 rfl rfl)
 have j0 := h0
 have lt0 : ∀ x ∈ p0, x.block < W.heap.size := by obtain ⟨m, hm⟩ := j0; exact DataW.trod_lt m _ _ _ hm
 obtain ⟨fuel0, hf0⟩ := h0
 obtain ⟨hlen0, hleaf0⟩ := leafs_trod 20 28 _ leafsS _ _ _ hf0
 obtain ⟨ac0, ac1, ac2, ac3, ac4, ac5, ac6, ac7, ac8, hcs0⟩ : ∃ ac0 ac1 ac2 ac3 ac4 ac5 ac6 ac7 ac8, Value.cells (.agg cs0) = #[ac0, ac1, ac2, ac3, ac4, ac5, ac6, ac7, ac8] := by
  match h : (Value.cells (.agg cs0)).toList, hlen0 with
  | [ac0, ac1, ac2, ac3, ac4, ac5, ac6, ac7, ac8], _ => exact ⟨ac0, ac1, ac2, ac3, ac4, ac5, ac6, ac7, ac8, Array.toList_inj.1 h⟩
 have hd0 : cs0 = #[ac0, ac1, ac2, ac3, ac4, ac5, ac6, ac7, ac8] := hcs0
 rw [hcs0] at hleaf0
 obtain ⟨_, _, hsa0⟩ := hleaf0 0 _ _ rfl rfl
 obtain ⟨aoa0, capa0, ta0, ea0, oka0⟩ := open_G hsa0
 obtain rfl : ac0 = _ := by simpa using ea0
 obtain ⟨az1, rfl, waz1⟩ := leaf_int Tryd.underlying3 (hleaf0 1 _ _ rfl rfl)
 obtain ⟨az2, rfl, waz2⟩ := leaf_int Tryd.underlying3 (hleaf0 2 _ _ rfl rfl)
 obtain ⟨az3, rfl, waz3⟩ := leaf_int Tryd.underlying3 (hleaf0 3 _ _ rfl rfl)
 obtain ⟨az4, rfl, waz4⟩ := leaf_int Tryd.underlying3 (hleaf0 4 _ _ rfl rfl)
 obtain ⟨az5, rfl, waz5⟩ := leaf_int Tryd.underlying3 (hleaf0 5 _ _ rfl rfl)
 obtain ⟨az6, rfl, waz6⟩ := leaf_int Tryd.underlying3 (hleaf0 6 _ _ rfl rfl)
 obtain ⟨az7, rfl, waz7⟩ := leaf_int Tryd.underlying23 (hleaf0 7 _ _ rfl rfl)
 obtain ⟨_, _, hsa8⟩ := hleaf0 8 _ _ rfl rfl
 obtain ⟨aoa8, capa8, ta8, ea8, oka8⟩ := open_O hsa8
 obtain rfl : ac8 = _ := by simpa using ea8
 subst hd0
 obtain ⟨cs1, rfl, hsz1⟩ := okWide_struct Tryd.underlying28 (hval 1 28 v1 rfl rfl)
 have j1 := h1
 have lt1 : ∀ x ∈ p1, x.block < W.heap.size := by obtain ⟨m, hm⟩ := j1; exact DataW.trod_lt m _ _ _ hm
 obtain ⟨fuel1, hf1⟩ := h1
 obtain ⟨hlen1, hleaf1⟩ := leafs_trod 20 28 _ leafsS _ _ _ hf1
 obtain ⟨bc0, bc1, bc2, bc3, bc4, bc5, bc6, bc7, bc8, hcs1⟩ : ∃ bc0 bc1 bc2 bc3 bc4 bc5 bc6 bc7 bc8, Value.cells (.agg cs1) = #[bc0, bc1, bc2, bc3, bc4, bc5, bc6, bc7, bc8] := by
  match h : (Value.cells (.agg cs1)).toList, hlen1 with
  | [bc0, bc1, bc2, bc3, bc4, bc5, bc6, bc7, bc8], _ => exact ⟨bc0, bc1, bc2, bc3, bc4, bc5, bc6, bc7, bc8, Array.toList_inj.1 h⟩
 have hd1 : cs1 = #[bc0, bc1, bc2, bc3, bc4, bc5, bc6, bc7, bc8] := hcs1
 rw [hcs1] at hleaf1
 obtain ⟨_, _, hsb0⟩ := hleaf1 0 _ _ rfl rfl
 obtain ⟨aob0, capb0, tb0, eb0, okb0⟩ := open_G hsb0
 obtain rfl : bc0 = _ := by simpa using eb0
 obtain ⟨bz1, rfl, wbz1⟩ := leaf_int Tryd.underlying3 (hleaf1 1 _ _ rfl rfl)
 obtain ⟨bz2, rfl, wbz2⟩ := leaf_int Tryd.underlying3 (hleaf1 2 _ _ rfl rfl)
 obtain ⟨bz3, rfl, wbz3⟩ := leaf_int Tryd.underlying3 (hleaf1 3 _ _ rfl rfl)
 obtain ⟨bz4, rfl, wbz4⟩ := leaf_int Tryd.underlying3 (hleaf1 4 _ _ rfl rfl)
 obtain ⟨bz5, rfl, wbz5⟩ := leaf_int Tryd.underlying3 (hleaf1 5 _ _ rfl rfl)
 obtain ⟨bz6, rfl, wbz6⟩ := leaf_int Tryd.underlying3 (hleaf1 6 _ _ rfl rfl)
 obtain ⟨bz7, rfl, wbz7⟩ := leaf_int Tryd.underlying23 (hleaf1 7 _ _ rfl rfl)
 obtain ⟨_, _, hsb8⟩ := hleaf1 8 _ _ rfl rfl
 obtain ⟨aob8, capb8, tb8, eb8, okb8⟩ := open_O hsb8
 obtain rfl : bc8 = _ := by simpa using eb8
 subst hd1
 clear hA0 hval0
 simp only [List.append_nil] at hW'
 have hw := walk ⟨.slice aoa0 ta0.length capa0, ta0, az1, az2, az3, az4, az5, az6, az7, .slice aoa8 ta8.length capa8, ta8⟩ ⟨.slice aob0 tb0.length capb0, tb0, bz1, bz2, bz3, bz4, bz5, bz6, bz7, .slice aob8 tb8.length capb8, tb8⟩ W (tied_of_laid hL) oka0 oka8 okb0 okb8
 refine hw.mono fun e W2 ⟨v, G2, he, hG, hh, hv⟩ => ?_
 subst he; subst hv
 have bel : Below W.heap.size W W2 := Holds.below hG hh
 exact ⟨_, rfl, _, _, _, [], _, [], hW', trodAll_mk1 (shut_bool Tryd.underlying4 _), (trodAll_cons_mk (Below.trod laidOut (by kernel_rfl) (of_decide_eq_true (by kernel_rfl)) j0 bel lt0) (trodAll_cons_mk (Below.trod laidOut (by kernel_rfl) (of_decide_eq_true (by kernel_rfl)) j1 bel lt1) trodAll_mk0)), rfl, bel.frame _, fun h => by cases h⟩
theorem over : Rows.scriptSamesRow.holds Tryd.pinned (OpenSpec.ofChange Rows.scriptSamesSpec) :=
 OpenClaim.holds_of_wide 4 Tryd.f4 rfl rfl rfl rfl rfl rfl rfl ⟨rfl, rfl, rfl, rfl, rfl⟩ rfl rfl rfl rfl rfl (by kernel_rfl) Tryd.func4 (by kernel_rfl)
  (of_decide_eq_true (by kernel_rfl)) (by unfold Func.isWrapper; first | (rw [if_pos (by decide +kernel)]; kernel_rfl) | (rw [if_neg (by decide +kernel)]; exact ⟨rfl, rfl⟩))
  (fun os started H enc _ => lifted os started H enc)
theorem card_holds : Rows.ScriptSamesCardSaid :=
 Claim7.holds_tied_plain_at .later [] [.data, .data, .data] true (true, "216f007a70444538582a332a930cf64bfc7a1f90d4f9ff3b8525ae38727075b0") false over (fun _ h => by cases h) (by kernel_rfl) (fun _ h => by cases h) scriptSames_row_tie rfl ⟨rfl, rfl⟩ (by kernel_rfl) rfl
  (fun f fn hf hfn => by
   obtain rfl : f = 4 := Option.some.inj ((show Tryd.prog.funcNamed "gemot/gemotlaw27.ScriptSames" = some 4 by kernel_rfl).symm.trans hf) |>.symm
   obtain rfl : fn = Tryd.f4 := (Option.some.inj (Tryd.func4.symm.trans hfn)).symm
   exact ⟨by kernel_rfl, fun j t ht => by
    rw [Tryd.params4] at ht
    have ht2 := List.mem_of_getElem? (by simpa using ht)
    simp only [List.mem_cons, List.not_mem_nil, or_false, or_self] at ht2
    subst ht2
    exact (show Tryd.prog.wantsStandIn 28 = false by kernel_rfl)
    ⟩)
  (by kernel_rfl)
#print axioms card_holds
end Go.Proofs.YtdangmomddpegaaDoor.scriptSames