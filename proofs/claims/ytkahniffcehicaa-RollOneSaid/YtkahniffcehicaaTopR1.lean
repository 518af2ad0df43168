/- RollOne: whatever is lost, doubled and late, the call returns true, and what came in reads as before. No condition beyond the row itself. -/
import Derived.Test.YtkahniffcehicaaM4
import Derived.KernelRfl
import Derived.Test.YtkahniffcehicaaRows
import Derived.WalkKit
import Derived.ProofKit
import Derived.OpenShut
import Derived.Below
import Derived.LaidLaws
import Derived.RowKit
namespace Go.Proofs.Try
open Go Go.RowKit Go.Sy
open Go.Eng hiding allB
set_option maxRecDepth 1000000
set_option linter.unusedVariables false
set_option maxHeartbeats 4000000
def ft_come5 : XF := ft_come1
theorem ft_come5_ok : chkF Try.prog 41 ft_come5 = true := ft_come1_ok
structure A_come5 where
  f : F5
  t : Told
structure R_come5 where
  f : F5
def po_come5 (p : A_come5) (r : R_come5) : Prop := (FI5 r.f ∧ Fr5 p.f r.f) ∧ r.f.cnt = p.f.cnt
noncomputable def I_come5 (p : A_come5) : IE := ([.ptr 0 0, .agg [.sy (.int 0 p.t.to), .sy (.int 0 p.t.fr), .sy (.int 0 p.t.c), .sy (.imm p.t.h 18 Int p.t.l encK)]], (Fd5n p.f), 23)
noncomputable def out_come5 (p : A_come5) (K : KE) : Bool := allB fun r : R_come5 => ifB (prB (po_come5 p r)) (K (.tup []) (Fd5n r.f) 23) true
def pre_come5 (p : A_come5) : Prop := FI5 p.f ∧ MsgOk p.f.s0 [p.f.s1, p.f.s2, p.f.s3, p.f.s4] p.t
theorem fin_come5 {p : A_come5} {K : KE} (hK : out_come5 p K = true) (r : R_come5) (h : po_come5 p r) : K (.tup []) (Fd5n r.f) 23 = true := ifB_use h (allB_ok hK r)
theorem vf_come5 (p : A_come5) (K : KE) (hpre : pre_come5 p) (hK : out_come5 p K = true) : (funE 1 (cfT nat_step4) noLp 600 ft_come5 (I_come5 p).1 (I_come5 p).2.1 (I_come5 p).2.2 K) = true := by
  refine Eq.trans (b := (ifB (prB (p.t.to = (0 : Int))) (must (prB (InR 1 p.t.c)) (must (prB (((.int 0 p.t.fr) : SY) = (.int 0 p.t.fr))) (exB fun p1 : A_ack5 => must (prB (([.ptr 0 0, .agg [.sy (.int 1 p.t.c), .int 2 (.ofNat 1)], .sy (.int 0 p.t.fr)], (Ro5n p.f.s0.l p.f.s0.com p.f.s0.sh p.f.c0 p.f.c1 p.f.c2 p.f.c3 p.f.c4), 4) = I_ack5 p1)) (must (prB (pre_ack5 p1)) (allB fun r1 : R_ack5 => ifB (prB (po_ack5 p1 r1)) (K (.tup []) (Fd5n ({ p.f with s0 := ⟨p1.l, r1.com, p1.sh⟩, c0 := r1.c0, c1 := r1.c1, c2 := r1.c2, c3 := r1.c3, c4 := r1.c4 } : F5)) 23) true))))) (ifB (prB (p.t.to = 0)) (exB fun p6 : A_take5 => must (prB (([.ptr 0 0, .sy (.int 0 p.t.fr), .sy (.imm p.t.h 18 Int p.t.l encK), .sy (.int 0 p.t.c)], (Ro5n p.f.s0.l p.f.s0.com p.f.s0.sh p.f.c0 p.f.c1 p.f.c2 p.f.c3 p.f.c4), 4) = I_take5 p6)) (must (prB (pre_take5 p6)) (allB fun r6 : R_take5 => ifB (prB (po_take5 p6 r6)) (K (.tup []) (.node (.node (.node (.node (.node .leaf (some (.prow 45 18 Int p.f.s2.l encK)) .leaf) (some (.blk false 67 10 [[.int 1 (.ofNat 0), .int 3 (.ofNat 1), .sl 20 0 5 (.rest 0), .sy (.int 1 4), .int 2 (.ofNat 1), .sy (.prow 21 p.f.s4.l.length), .int 0 (.ofNat 0), .sy (.int 0 p.f.s4.com), .sy (.bool p.f.s4.sh), .map 22]])) .leaf) (some (.blk false 67 10 [[.int 1 (.ofNat 0), .int 3 (.ofNat 1), .sl 8 0 5 (.rest 0), .sy (.int 1 p6.me), .int 2 (.ofNat 1), .sy (.prow 9 r6.l.length), .int 0 (.ofNat 0), .sy (.int 0 r6.com), .sy (.bool p6.sh), .map 10]])) (.node (.node .leaf (some (.map [(.agg [.int 1 (.ofNat 0), .int 2 (.ofNat 1)], .sy (.int 0 0), 0), (.agg [.int 1 (.ofNat 1), .int 2 (.ofNat 1)], .sy (.int 0 0), 1), (.agg [.int 1 (.ofNat 2), .int 2 (.ofNat 1)], .sy (.int 0 0), 2), (.agg [.int 1 (.ofNat 3), .int 2 (.ofNat 1)], .sy (.int 0 0), 3), (.agg [.int 1 (.ofNat 4), .int 2 (.ofNat 1)], .sy (.int 0 0), 4)] 5)) .leaf) (some (.blk true 31 2 [[.int 1 (.ofNat 0), .int 2 (.ofNat 1)], [.int 1 (.ofNat 1), .int 2 (.ofNat 1)], [.int 1 (.ofNat 2), .int 2 (.ofNat 1)], [.int 1 (.ofNat 3), .int 2 (.ofNat 1)], [.int 1 (.ofNat 4), .int 2 (.ofNat 1)]])) .leaf)) (some (.blk true 22 1 [[.ptr 3 0], [.ptr 4 0], [.ptr 5 0], [.ptr 6 0], [.ptr 7 0]])) (.node (.node (.node .leaf (some (.blk true 31 2 [[.int 1 (.ofNat 0), .int 2 (.ofNat 1)], [.int 1 (.ofNat 1), .int 2 (.ofNat 1)], [.int 1 (.ofNat 2), .int 2 (.ofNat 1)], [.int 1 (.ofNat 3), .int 2 (.ofNat 1)], [.int 1 (.ofNat 4), .int 2 (.ofNat 1)]])) .leaf) (some (.prow 45 18 Int r6.l encK)) .leaf) (some (.blk false 67 10 [[.int 1 (.ofNat 0), .int 3 (.ofNat 1), .sl 14 0 5 (.rest 0), .sy (.int 1 2), .int 2 (.ofNat 1), .sy (.prow 15 p.f.s2.l.length), .int 0 (.ofNat 0), .sy (.int 0 p.f.s2.com), .sy (.bool p.f.s2.sh), .map 16]])) (.node (.node .leaf (some (.prow 45 18 Int p.f.s4.l encK)) .leaf) (some (.map [(.agg [.int 1 (.ofNat 0), .int 2 (.ofNat 1)], .sy (.int 0 0), 0), (.agg [.int 1 (.ofNat 1), .int 2 (.ofNat 1)], .sy (.int 0 0), 1), (.agg [.int 1 (.ofNat 2), .int 2 (.ofNat 1)], .sy (.int 0 0), 2), (.agg [.int 1 (.ofNat 3), .int 2 (.ofNat 1)], .sy (.int 0 0), 3), (.agg [.int 1 (.ofNat 4), .int 2 (.ofNat 1)], .sy (.int 0 0), 4)] 5)) .leaf))) (some (.blk false 81 3 [[.sl 1 0 5 (.rest 0), .sy (.prow 2 p.f.fly.length), .sy (.int 0 p.f.cnt)]])) (.node (.node (.node (.node .leaf (some (.map [(.agg [.int 1 (.ofNat 0), .int 2 (.ofNat 1)], .sy (.int 0 0), 0), (.agg [.int 1 (.ofNat 1), .int 2 (.ofNat 1)], .sy (.int 0 0), 1), (.agg [.int 1 (.ofNat 2), .int 2 (.ofNat 1)], .sy (.int 0 0), 2), (.agg [.int 1 (.ofNat 3), .int 2 (.ofNat 1)], .sy (.int 0 0), 3), (.agg [.int 1 (.ofNat 4), .int 2 (.ofNat 1)], .sy (.int 0 0), 4)] 5)) .leaf) (some (.blk true 31 2 [[.int 1 (.ofNat 0), .int 2 (.ofNat 1)], [.int 1 (.ofNat 1), .int 2 (.ofNat 1)], [.int 1 (.ofNat 2), .int 2 (.ofNat 1)], [.int 1 (.ofNat 3), .int 2 (.ofNat 1)], [.int 1 (.ofNat 4), .int 2 (.ofNat 1)]])) .leaf) (some (.blk false 67 10 [[.int 1 (.ofNat 0), .int 3 (.ofNat 1), .sl 11 0 5 (.rest 0), .sy (.int 1 1), .int 2 (.ofNat 1), .sy (.prow 12 p.f.s1.l.length), .int 0 (.ofNat 0), .sy (.int 0 p.f.s1.com), .sy (.bool p.f.s1.sh), .map 13]])) (.node (.node .leaf (some (.blk true 31 2 [[.int 1 (.ofNat 0), .int 2 (.ofNat 1)], [.int 1 (.ofNat 1), .int 2 (.ofNat 1)], [.int 1 (.ofNat 2), .int 2 (.ofNat 1)], [.int 1 (.ofNat 3), .int 2 (.ofNat 1)], [.int 1 (.ofNat 4), .int 2 (.ofNat 1)]])) .leaf) (some (.prow 45 18 Int p.f.s1.l encK)) .leaf)) (some (.prow 100 4 Told p.f.fly encT)) (.node (.node (.node .leaf (some (.prow 45 18 Int p.f.s3.l encK)) .leaf) (some (.map [(.agg [.int 1 (.ofNat 0), .int 2 (.ofNat 1)], .sy (.int 0 p6.c0), 0), (.agg [.int 1 (.ofNat 1), .int 2 (.ofNat 1)], .sy (.int 0 p6.c1), 1), (.agg [.int 1 (.ofNat 2), .int 2 (.ofNat 1)], .sy (.int 0 p6.c2), 2), (.agg [.int 1 (.ofNat 3), .int 2 (.ofNat 1)], .sy (.int 0 p6.c3), 3), (.agg [.int 1 (.ofNat 4), .int 2 (.ofNat 1)], .sy (.int 0 p6.c4), 4)] 5)) .leaf) (some (.blk false 67 10 [[.int 1 (.ofNat 0), .int 3 (.ofNat 1), .sl 17 0 5 (.rest 0), .sy (.int 1 3), .int 2 (.ofNat 1), .sy (.prow 18 p.f.s3.l.length), .int 0 (.ofNat 0), .sy (.int 0 p.f.s3.com), .sy (.bool p.f.s3.sh), .map 19]])) (.node (.node .leaf (some (.map [(.agg [.int 1 (.ofNat 0), .int 2 (.ofNat 1)], .sy (.int 0 0), 0), (.agg [.int 1 (.ofNat 1), .int 2 (.ofNat 1)], .sy (.int 0 0), 1), (.agg [.int 1 (.ofNat 2), .int 2 (.ofNat 1)], .sy (.int 0 0), 2), (.agg [.int 1 (.ofNat 3), .int 2 (.ofNat 1)], .sy (.int 0 0), 3), (.agg [.int 1 (.ofNat 4), .int 2 (.ofNat 1)], .sy (.int 0 0), 4)] 5)) .leaf) (some (.blk true 31 2 [[.int 1 (.ofNat 0), .int 2 (.ofNat 1)], [.int 1 (.ofNat 1), .int 2 (.ofNat 1)], [.int 1 (.ofNat 2), .int 2 (.ofNat 1)], [.int 1 (.ofNat 3), .int 2 (.ofNat 1)], [.int 1 (.ofNat 4), .int 2 (.ofNat 1)]])) .leaf)))) 23) true))) (ifB (prB (p.t.to = 1)) (exB fun p5 : A_take5 => must (prB (([.ptr 0 0, .sy (.int 0 p.t.fr), .sy (.imm p.t.h 18 Int p.t.l encK), .sy (.int 0 p.t.c)], (Rm5n p.f.s1.l p.f.s1.com p.f.s1.sh 0 0 0 0 0 1), 4) = I_take5 p5)) (must (prB (pre_take5 p5)) (allB fun r5 : R_take5 => ifB (prB (po_take5 p5 r5)) (K (.tup []) (Fg5 ({ p.f with s1 := ⟨r5.l, r5.com, p5.sh⟩ } : F5) p5.me p5.c0 p5.c1 p5.c2 p5.c3 p5.c4 2 0 0 0 0 0 3 0 0 0 0 0 4 0 0 0 0 0 p.f.fly.length p.f.s0.l.length r5.l.length p.f.s2.l.length p.f.s3.l.length p.f.s4.l.length) 23) true))) (ifB (prB (p.t.to = 2)) (exB fun p4 : A_take5 => must (prB (([.ptr 0 0, .sy (.int 0 p.t.fr), .sy (.imm p.t.h 18 Int p.t.l encK), .sy (.int 0 p.t.c)], (Rm5n p.f.s2.l p.f.s2.com p.f.s2.sh 0 0 0 0 0 2), 4) = I_take5 p4)) (must (prB (pre_take5 p4)) (allB fun r4 : R_take5 => ifB (prB (po_take5 p4 r4)) (K (.tup []) (Fg5 ({ p.f with s2 := ⟨r4.l, r4.com, p4.sh⟩ } : F5) 1 0 0 0 0 0 p4.me p4.c0 p4.c1 p4.c2 p4.c3 p4.c4 3 0 0 0 0 0 4 0 0 0 0 0 p.f.fly.length p.f.s0.l.length p.f.s1.l.length r4.l.length p.f.s3.l.length p.f.s4.l.length) 23) true))) (ifB (prB (p.t.to = 3)) (exB fun p3 : A_take5 => must (prB (([.ptr 0 0, .sy (.int 0 p.t.fr), .sy (.imm p.t.h 18 Int p.t.l encK), .sy (.int 0 p.t.c)], (Rm5n p.f.s3.l p.f.s3.com p.f.s3.sh 0 0 0 0 0 3), 4) = I_take5 p3)) (must (prB (pre_take5 p3)) (allB fun r3 : R_take5 => ifB (prB (po_take5 p3 r3)) (K (.tup []) (Fg5 ({ p.f with s3 := ⟨r3.l, r3.com, p3.sh⟩ } : F5) 1 0 0 0 0 0 2 0 0 0 0 0 p3.me p3.c0 p3.c1 p3.c2 p3.c3 p3.c4 4 0 0 0 0 0 p.f.fly.length p.f.s0.l.length p.f.s1.l.length p.f.s2.l.length r3.l.length p.f.s4.l.length) 23) true))) (ifB (prB (p.t.to = 4)) (exB fun p2 : A_take5 => must (prB (([.ptr 0 0, .sy (.int 0 p.t.fr), .sy (.imm p.t.h 18 Int p.t.l encK), .sy (.int 0 p.t.c)], (Rm5n p.f.s4.l p.f.s4.com p.f.s4.sh 0 0 0 0 0 4), 4) = I_take5 p2)) (must (prB (pre_take5 p2)) (allB fun r2 : R_take5 => ifB (prB (po_take5 p2 r2)) (K (.tup []) (Fg5 ({ p.f with s4 := ⟨r2.l, r2.com, p2.sh⟩ } : F5) 1 0 0 0 0 0 2 0 0 0 0 0 3 0 0 0 0 0 p2.me p2.c0 p2.c1 p2.c2 p2.c3 p2.c4 p.f.fly.length p.f.s0.l.length p.f.s1.l.length p.f.s2.l.length p.f.s3.l.length r2.l.length) 23) true))) (must (prB (False)) (true))))))))) (by kernel_rfl) ?_
  dsimp only [pre_come5] at hpre
  obtain ⟨hinv, hm⟩ := hpre
  have hinv : FInv p.f.s0 _ _ p.f.fly := hinv
  have hs : p.f.s0.l.length ≤ 400 := hinv.short
  have hfew : p.f.fly.length ≤ 100 := hinv.few
  have f0 : p.f.c0 ≤ (p.f.s0.l.length : Int) ∧ 0 ≤ p.f.c0 ∧ p.f.s0.l.length ≤ p.f.s0.l.length := ⟨(hinv.each 0 _ _ rfl rfl).cl, (hinv.each 0 _ _ rfl rfl).c0, (hinv.each 0 _ _ rfl rfl).len⟩
  have f1 : p.f.c1 ≤ (p.f.s1.l.length : Int) ∧ 0 ≤ p.f.c1 ∧ p.f.s1.l.length ≤ p.f.s0.l.length := ⟨(hinv.each 1 _ _ rfl rfl).cl, (hinv.each 1 _ _ rfl rfl).c0, (hinv.each 1 _ _ rfl rfl).len⟩
  have f2 : p.f.c2 ≤ (p.f.s2.l.length : Int) ∧ 0 ≤ p.f.c2 ∧ p.f.s2.l.length ≤ p.f.s0.l.length := ⟨(hinv.each 2 _ _ rfl rfl).cl, (hinv.each 2 _ _ rfl rfl).c0, (hinv.each 2 _ _ rfl rfl).len⟩
  have f3 : p.f.c3 ≤ (p.f.s3.l.length : Int) ∧ 0 ≤ p.f.c3 ∧ p.f.s3.l.length ≤ p.f.s0.l.length := ⟨(hinv.each 3 _ _ rfl rfl).cl, (hinv.each 3 _ _ rfl rfl).c0, (hinv.each 3 _ _ rfl rfl).len⟩
  have f4 : p.f.c4 ≤ (p.f.s4.l.length : Int) ∧ 0 ≤ p.f.c4 ∧ p.f.s4.l.length ≤ p.f.s0.l.length := ⟨(hinv.each 4 _ _ rfl rfl).cl, (hinv.each 4 _ _ rfl rfl).c0, (hinv.each 4 _ _ rfl rfl).len⟩
  have hm2 := hm.flat hs
  simp only [List.length_cons, List.length_nil, List.length_singleton] at hm2
  refine ifP (fun hc1 => ?_) (fun hc1 => ?_)
  refine mustP (by simp only [InR] ; omega) ?_
  refine mustP (rfl) ?_
  refine callPR (⟨p.f.s0.l, p.f.s0.com, p.f.s0.sh, p.f.c0, p.f.c1, p.f.c2, p.f.c3, p.f.c4, p.t.c, p.t.fr⟩ : A_ack5) rfl (by (try dsimp only [pre_ack5]) ; omega) fun r1 hi2 => ?_
  dsimp only [po_ack5] at hi2
  exact fin_come5 hK ⟨({ p.f with s0 := ⟨p.f.s0.l, r1.com, p.f.s0.sh⟩, c0 := r1.c0, c1 := r1.c1, c2 := r1.c2, c3 := r1.c3, c4 := r1.c4 } : F5)⟩ (by dsimp only [po_come5] <;> (first | (exfalso ; omega) | exact ⟨tr_ack (maj := 3) (m := 5) hinv (by simp) (by simp) hm (by assumption) (by assumption), rfl⟩))
  refine ifP (fun hc3 => ?_) (fun hc3 => ?_)
  exfalso ; omega
  refine ifP (fun hc4 => ?_) (fun hc4 => ?_)
  refine callPR (⟨p.f.s1.l, p.f.s1.com, p.f.s1.sh, (0 : Int), (0 : Int), (0 : Int), (0 : Int), (0 : Int), (1 : Int), p.t.fr, p.t.h, p.t.l, p.t.c⟩ : A_take5) rfl (by (try dsimp only [pre_take5]) ; omega) fun r5 hi5 => ?_
  dsimp only [po_take5] at hi5
  exact fin_come5 hK ⟨({ p.f with s1 := ⟨r5.l, r5.com, p.f.s1.sh⟩ } : F5)⟩ (by dsimp only [po_come5] <;> (first | (exfalso ; omega) | exact ⟨tr_take (i := 0) hinv rfl hm (by assumption) (by assumption), rfl⟩))
  refine ifP (fun hc6 => ?_) (fun hc6 => ?_)
  refine callPR (⟨p.f.s2.l, p.f.s2.com, p.f.s2.sh, (0 : Int), (0 : Int), (0 : Int), (0 : Int), (0 : Int), (2 : Int), p.t.fr, p.t.h, p.t.l, p.t.c⟩ : A_take5) rfl (by (try dsimp only [pre_take5]) ; omega) fun r4 hi7 => ?_
  dsimp only [po_take5] at hi7
  exact fin_come5 hK ⟨({ p.f with s2 := ⟨r4.l, r4.com, p.f.s2.sh⟩ } : F5)⟩ (by dsimp only [po_come5] <;> (first | (exfalso ; omega) | exact ⟨tr_take (i := 1) hinv rfl hm (by assumption) (by assumption), rfl⟩))
  refine ifP (fun hc8 => ?_) (fun hc8 => ?_)
  refine callPR (⟨p.f.s3.l, p.f.s3.com, p.f.s3.sh, (0 : Int), (0 : Int), (0 : Int), (0 : Int), (0 : Int), (3 : Int), p.t.fr, p.t.h, p.t.l, p.t.c⟩ : A_take5) rfl (by (try dsimp only [pre_take5]) ; omega) fun r3 hi9 => ?_
  dsimp only [po_take5] at hi9
  exact fin_come5 hK ⟨({ p.f with s3 := ⟨r3.l, r3.com, p.f.s3.sh⟩ } : F5)⟩ (by dsimp only [po_come5] <;> (first | (exfalso ; omega) | exact ⟨tr_take (i := 2) hinv rfl hm (by assumption) (by assumption), rfl⟩))
  refine ifP (fun hc10 => ?_) (fun hc10 => ?_)
  refine callPR (⟨p.f.s4.l, p.f.s4.com, p.f.s4.sh, (0 : Int), (0 : Int), (0 : Int), (0 : Int), (0 : Int), (4 : Int), p.t.fr, p.t.h, p.t.l, p.t.c⟩ : A_take5) rfl (by (try dsimp only [pre_take5]) ; omega) fun r2 hi11 => ?_
  dsimp only [po_take5] at hi11
  exact fin_come5 hK ⟨({ p.f with s4 := ⟨r2.l, r2.com, p.f.s4.sh⟩ } : F5)⟩ (by dsimp only [po_come5] <;> (first | (exfalso ; omega) | exact ⟨tr_take (i := 3) hinv rfl hm (by assumption) (by assumption), rfl⟩))
  refine mustP (by omega) ?_
  rfl
noncomputable def ec_come5 : SpecE := tstE (elB 1 5) (esOf I_come5 (spP pre_come5 out_come5)) ec_come4
theorem nc_come5 : NatE Try.prog 41 1 ec_come5 := tstE_ok (natE_pl (f := 41) (k := 1) (cfT_ok nat_step4_ok) ft_come5_ok (by rfl) (by rfl) vf_come5) nc_come4
noncomputable def nat_come5 := natC nat_step4 1 ec_come5 41 [(0, 4), (1, 15)]
theorem nat_come5_ok : NatsOk Try.prog nat_come5 := natC_ok nc_come5 nat_step4_ok
def ft_step5 : XF := ft_step1
theorem ft_step5_ok : chkF Try.prog 28 ft_step5 = true := ft_step1_ok
structure A_rest5 where
  f : F5
  k : Int
  x : Int
  nn : Int
  i : Int
  y : Int
  kk : Int
structure R_rest5 where
  f : F5
def po_rest5 (p : A_rest5) (r : R_rest5) : Prop := (FI5 r.f ∧ Fr5 p.f r.f) ∧ r.f.cnt = p.f.cnt
noncomputable def I_rest5 (p : A_rest5) : IL := ((.cons 5 (.sy (.int 0 p.kk)) (.cons 4 (.sy (.int 0 p.y)) (.cons 3 (.ptr 1 0) (.cons 0 (.ptr 0 0) .nil)))), (Fb5n p.f p.k p.x p.nn p.i), 24)
noncomputable def out_rest5 (p : A_rest5) (K : KC) : Bool := allB fun r : R_rest5 => ifB (prB (po_rest5 p r)) (K 0 .nil (Fd5n r.f) 23) true
def pre_rest5 (p : A_rest5) : Prop := FI5 p.f ∧ 0 ≤ p.f.cnt ∧ p.f.cnt ≤ 1000000 ∧ 0 ≤ p.y ∧ p.y < 5 ∧ p.kk = (p.f.fly.length : Int)
theorem fin_rest5 {p : A_rest5} {K : KC} (hK : out_rest5 p K = true) (r : R_rest5) (h : po_rest5 p r) : K 0 .nil (Fd5n r.f) 23 = true := ifB_use h (allB_ok hK r)
noncomputable def sp_rest5 (p : A_rest5) (K : KC) : Bool := must (prB (pre_rest5 p)) (out_rest5 p K)
noncomputable def lp_step5 : LpF := fun j S M nx K => (Bool.rec (false) (exB fun p : A_rest5 => must (prB ((S, M, nx) = I_rest5 p)) (sp_rest5 p K)) (Nat.beq j 0))
def bd_rest5 : XC := bd_rest1
theorem vb_rest5 (p : A_rest5) (K : KC) (hpre : pre_rest5 p) (hK : out_rest5 p K = true) : (codeX (cfT nat_come5) lp_step5 600 bd_rest5 (I_rest5 p).1 (I_rest5 p).2.1 (I_rest5 p).2.2 K) = true := by
  refine Eq.trans (b := (let y0 : Int := (Int.tmod ((Int.tmod p.i p.kk) + p.kk) p.kk); ifB (prB (p.k = (7 : Int))) (ifB (prB (p.y = 0)) (K 0 .nil (Fd5n ({ p.f with s0 := ({ p.f.s0 with sh := true = true } : Rl) } : F5)) 23) (ifB (prB (p.y = 1)) (K 0 .nil (Fd5n ({ p.f with s1 := ({ p.f.s1 with sh := true = true } : Rl) } : F5)) 23) (ifB (prB (p.y = 2)) (K 0 .nil (Fd5n ({ p.f with s2 := ({ p.f.s2 with sh := true = true } : Rl) } : F5)) 23) (ifB (prB (p.y = 3)) (K 0 .nil (Fd5n ({ p.f with s3 := ({ p.f.s3 with sh := true = true } : Rl) } : F5)) 23) (ifB (prB (p.y = 4)) (K 0 .nil (Fd5n ({ p.f with s4 := ({ p.f.s4 with sh := true = true } : Rl) } : F5)) 23) (must (prB (False)) (true))))))) (ifB (prB ((3 : Int) ≤ p.k)) (ifB (prB ((0 : Int) < p.kk)) (must (prB (p.kk ≠ 0)) (must (prB (InR 0 ((Int.tmod p.i p.kk) + p.kk))) (must (prB (p.kk ≠ 0)) (must (prB (0 ≤ y0 ∧ y0 < (p.f.fly.length : Int))) (must (prB ((y0.toNat) < p.f.fly.length)) (allB fun x1 : Told => ifB (prB (p.f.fly[y0.toNat]? = some x1)) (ifB (prB (¬ p.k = (5 : Int))) (must (prB (p.f.fly.length = p.f.fly.length ∧ 0 ≤ (0 : Int) ∧ (0 : Int) ≤ y0 ∧ y0 ≤ (p.f.fly.length : Int))) (must (prB (InR 0 (y0 + (1 : Int)))) (must (prB (p.f.fly.length = p.f.fly.length ∧ 0 ≤ (y0 + (1 : Int)) ∧ (y0 + (1 : Int)) ≤ (p.f.fly.length : Int) ∧ (p.f.fly.length : Int) ≤ (p.f.fly.length : Int))) (must (prB (((.prow 3 p.f.fly.length) : SY) = (.prow 3 p.f.fly.length))) (must (prB (p.f.fly.length = p.f.fly.length ∧ 0 ≤ (0 : Int) ∧ (0 : Int) ≤ y0 ∧ y0 ≤ (p.f.fly.length : Int))) (must (prB (((.psub 3 4 0 ((y0.toNat) - 0)) : SY) = (.psub 3 4 0 ((y0.toNat) - 0)))) (must (prB (((.prow 3 p.f.fly.length) : SY) = (.prow 3 p.f.fly.length))) (must (prB (p.f.fly.length = p.f.fly.length ∧ 0 ≤ (y0 + (1 : Int)) ∧ (y0 + (1 : Int)) ≤ (p.f.fly.length : Int) ∧ (p.f.fly.length : Int) ≤ (p.f.fly.length : Int))) (must (prB (((.psub 3 4 ((y0 + (1 : Int)).toNat) (p.f.fly.length - ((y0 + (1 : Int)).toNat))) : SY) = (.psub 3 4 ((y0 + (1 : Int)).toNat) (p.f.fly.length - ((y0 + (1 : Int)).toNat))))) (must (prB (0 + ((y0.toNat) - 0) ≤ p.f.fly.length)) (ifB (prB (((p.f.fly.drop 0).take ((y0.toNat) - 0)) = [])) (must (prB (((.prow 3 p.f.fly.length) : SY) = (.prow 3 p.f.fly.length))) (must (prB (p.f.fly.length = p.f.fly.length ∧ 0 ≤ (y0 + (1 : Int)) ∧ (y0 + (1 : Int)) ≤ (p.f.fly.length : Int) ∧ (p.f.fly.length : Int) ≤ (p.f.fly.length : Int))) (must (prB (((.psub 3 4 ((y0 + (1 : Int)).toNat) (p.f.fly.length - ((y0 + (1 : Int)).toNat))) : SY) = (.psub 3 4 ((y0 + (1 : Int)).toNat) (p.f.fly.length - ((y0 + (1 : Int)).toNat))))) (must (prB (((y0 + (1 : Int)).toNat) + (p.f.fly.length - ((y0 + (1 : Int)).toNat)) ≤ p.f.fly.length)) (ifB (prB (((p.f.fly.drop ((y0 + (1 : Int)).toNat)).take (p.f.fly.length - ((y0 + (1 : Int)).toNat))) = [])) (must (prB ((.sl 25 0 0 (.ex 0) : AV) = (.sl 25 0 0 (.ex 0) : AV))) (ifB (prB (¬ p.k = (6 : Int))) (exB fun p1 : A_come5 => must (prB (([.ptr 0 0, .agg [.sy (.int 0 x1.to), .sy (.int 0 x1.fr), .sy (.int 0 x1.c), .sy (.imm x1.h 18 Int x1.l encK)]], (Fd5 ({ p.f with fly := ([] : List Told) } : F5) 0 p.f.s0.l.length p.f.s1.l.length p.f.s2.l.length p.f.s3.l.length p.f.s4.l.length), 23) = I_come5 p1)) (must (prB (pre_come5 p1)) (allB fun r1 : R_come5 => ifB (prB (po_come5 p1 r1)) (K 0 .nil (Fd5n r1.f) 23) true))) (K 0 .nil (Fd5 ({ p.f with fly := ([] : List Told) } : F5) 0 p.f.s0.l.length p.f.s1.l.length p.f.s2.l.length p.f.s3.l.length p.f.s4.l.length) 23))) (must (prB (limP 48 ((p.f.fly.drop ((y0 + (1 : Int)).toNat)).take (p.f.fly.length - ((y0 + (1 : Int)).toNat))).length)) (ifB (prB (¬ p.k = (6 : Int))) (exB fun p2 : A_come5 => must (prB (([.ptr 0 0, .agg [.sy (.int 0 x1.to), .sy (.int 0 x1.fr), .sy (.int 0 x1.c), .sy (.imm x1.h 18 Int x1.l encK)]], (Fd5 ({ p.f with fly := (p.f.fly.drop ((y0 + (1 : Int)).toNat)).take (p.f.fly.length - ((y0 + (1 : Int)).toNat)) } : F5) (((p.f.fly.drop ((y0 + (1 : Int)).toNat)).take (p.f.fly.length - ((y0 + (1 : Int)).toNat))).length) p.f.s0.l.length p.f.s1.l.length p.f.s2.l.length p.f.s3.l.length p.f.s4.l.length), 23) = I_come5 p2)) (must (prB (pre_come5 p2)) (allB fun r2 : R_come5 => ifB (prB (po_come5 p2 r2)) (K 0 .nil (Fd5n r2.f) 23) true))) (K 0 .nil (Fd5 ({ p.f with fly := (p.f.fly.drop ((y0 + (1 : Int)).toNat)).take (p.f.fly.length - ((y0 + (1 : Int)).toNat)) } : F5) (((p.f.fly.drop ((y0 + (1 : Int)).toNat)).take (p.f.fly.length - ((y0 + (1 : Int)).toNat))).length) p.f.s0.l.length p.f.s1.l.length p.f.s2.l.length p.f.s3.l.length p.f.s4.l.length) 23)))))))) (must (prB (limP 48 ((p.f.fly.drop 0).take ((y0.toNat) - 0)).length)) (must (prB (((.prow 3 p.f.fly.length) : SY) = (.prow 3 p.f.fly.length))) (must (prB (p.f.fly.length = p.f.fly.length ∧ 0 ≤ (y0 + (1 : Int)) ∧ (y0 + (1 : Int)) ≤ (p.f.fly.length : Int) ∧ (p.f.fly.length : Int) ≤ (p.f.fly.length : Int))) (must (prB (((.psub 3 4 ((y0 + (1 : Int)).toNat) (p.f.fly.length - ((y0 + (1 : Int)).toNat))) : SY) = (.psub 3 4 ((y0 + (1 : Int)).toNat) (p.f.fly.length - ((y0 + (1 : Int)).toNat))))) (must (prB (((y0 + (1 : Int)).toNat) + (p.f.fly.length - ((y0 + (1 : Int)).toNat)) ≤ p.f.fly.length)) (must (prB ((((p.f.fly.drop 0).take ((y0.toNat) - 0)).length) = ((p.f.fly.drop 0).take ((y0.toNat) - 0)).length)) (ifB (prB (((p.f.fly.drop ((y0 + (1 : Int)).toNat)).take (p.f.fly.length - ((y0 + (1 : Int)).toNat))) = [])) (ifB (prB (¬ p.k = (6 : Int))) (exB fun p4 : A_come5 => must (prB (([.ptr 0 0, .agg [.sy (.int 0 x1.to), .sy (.int 0 x1.fr), .sy (.int 0 x1.c), .sy (.imm x1.h 18 Int x1.l encK)]], (Fd5 ({ p.f with fly := (p.f.fly.drop 0).take ((y0.toNat) - 0) } : F5) (((p.f.fly.drop 0).take ((y0.toNat) - 0)).length) p.f.s0.l.length p.f.s1.l.length p.f.s2.l.length p.f.s3.l.length p.f.s4.l.length), 23) = I_come5 p4)) (must (prB (pre_come5 p4)) (allB fun r4 : R_come5 => ifB (prB (po_come5 p4 r4)) (K 0 .nil (Fd5n r4.f) 23) true))) (K 0 .nil (Fd5 ({ p.f with fly := (p.f.fly.drop 0).take ((y0.toNat) - 0) } : F5) (((p.f.fly.drop 0).take ((y0.toNat) - 0)).length) p.f.s0.l.length p.f.s1.l.length p.f.s2.l.length p.f.s3.l.length p.f.s4.l.length) 23)) (exB fun m1 : List Told => must (prB (rowsR (m1.map encT) (((p.f.fly.drop ((y0 + (1 : Int)).toNat)).take (p.f.fly.length - ((y0 + (1 : Int)).toNat))).map encT))) (must (prB (limP 48 (((p.f.fly.drop 0).take ((y0.toNat) - 0)).length + m1.length))) (ifB (prB (¬ p.k = (6 : Int))) (exB fun p3 : A_come5 => must (prB (([.ptr 0 0, .agg [.sy (.int 0 x1.to), .sy (.int 0 x1.fr), .sy (.int 0 x1.c), .sy (.imm x1.h 18 Int x1.l encK)]], (Fd5 ({ p.f with fly := ((p.f.fly.drop 0).take ((y0.toNat) - 0)) ++ m1 } : F5) ((((p.f.fly.drop 0).take ((y0.toNat) - 0)) ++ m1).length) p.f.s0.l.length p.f.s1.l.length p.f.s2.l.length p.f.s3.l.length p.f.s4.l.length), 23) = I_come5 p3)) (must (prB (pre_come5 p3)) (allB fun r3 : R_come5 => ifB (prB (po_come5 p3 r3)) (K 0 .nil (Fd5n r3.f) 23) true))) (K 0 .nil (Fd5 ({ p.f with fly := ((p.f.fly.drop 0).take ((y0.toNat) - 0)) ++ m1 } : F5) ((((p.f.fly.drop 0).take ((y0.toNat) - 0)) ++ m1).length) p.f.s0.l.length p.f.s1.l.length p.f.s2.l.length p.f.s3.l.length p.f.s4.l.length) 23)))))))))))))))))))))) (ifB (prB (¬ p.k = (6 : Int))) (exB fun p5 : A_come5 => must (prB (([.ptr 0 0, .agg [.sy (.int 0 x1.to), .sy (.int 0 x1.fr), .sy (.int 0 x1.c), .sy (.imm x1.h 18 Int x1.l encK)]], (Fd5n p.f), 23) = I_come5 p5)) (must (prB (pre_come5 p5)) (allB fun r5 : R_come5 => ifB (prB (po_come5 p5 r5)) (K 0 .nil (Fd5n r5.f) 23) true))) (K 0 .nil (Fd5n p.f) 23))) true)))))) (K 0 .nil (Fd5n p.f) 23)) (K 0 .nil (Fd5n p.f) 23)))) (by kernel_rfl) ?_
  dsimp only [pre_rest5] at hpre
  obtain ⟨hinv, k1, k2, k3, k4, k5⟩ := hpre
  have hinv : FInv p.f.s0 _ _ p.f.fly := hinv
  have hs : p.f.s0.l.length ≤ 400 := hinv.short
  have hfew : p.f.fly.length ≤ 100 := hinv.few
  have f0 : p.f.c0 ≤ (p.f.s0.l.length : Int) ∧ 0 ≤ p.f.c0 ∧ p.f.s0.l.length ≤ p.f.s0.l.length := ⟨(hinv.each 0 _ _ rfl rfl).cl, (hinv.each 0 _ _ rfl rfl).c0, (hinv.each 0 _ _ rfl rfl).len⟩
  have f1 : p.f.c1 ≤ (p.f.s1.l.length : Int) ∧ 0 ≤ p.f.c1 ∧ p.f.s1.l.length ≤ p.f.s0.l.length := ⟨(hinv.each 1 _ _ rfl rfl).cl, (hinv.each 1 _ _ rfl rfl).c0, (hinv.each 1 _ _ rfl rfl).len⟩
  have f2 : p.f.c2 ≤ (p.f.s2.l.length : Int) ∧ 0 ≤ p.f.c2 ∧ p.f.s2.l.length ≤ p.f.s0.l.length := ⟨(hinv.each 2 _ _ rfl rfl).cl, (hinv.each 2 _ _ rfl rfl).c0, (hinv.each 2 _ _ rfl rfl).len⟩
  have f3 : p.f.c3 ≤ (p.f.s3.l.length : Int) ∧ 0 ≤ p.f.c3 ∧ p.f.s3.l.length ≤ p.f.s0.l.length := ⟨(hinv.each 3 _ _ rfl rfl).cl, (hinv.each 3 _ _ rfl rfl).c0, (hinv.each 3 _ _ rfl rfl).len⟩
  have f4 : p.f.c4 ≤ (p.f.s4.l.length : Int) ∧ 0 ≤ p.f.c4 ∧ p.f.s4.l.length ≤ p.f.s0.l.length := ⟨(hinv.each 4 _ _ rfl rfl).cl, (hinv.each 4 _ _ rfl rfl).c0, (hinv.each 4 _ _ rfl rfl).len⟩
  have t6 := tmk p.kk p.i
  have t7 := tmk2 p.kk p.i
  refine ifP (fun hc1 => ?_) (fun hc1 => ?_)
  refine ifP (fun hc2 => ?_) (fun hc2 => ?_)
  exact fin_rest5 hK ⟨({ p.f with s0 := ({ p.f.s0 with sh := true = true } : Rl) } : F5)⟩ (by dsimp only [po_rest5] <;> (first | (exfalso ; omega) | exact ⟨by exact ⟨tr_shut hinv _, frz_shut rfl⟩, by first | rfl | exact hi0.2⟩))
  refine ifP (fun hc3 => ?_) (fun hc3 => ?_)
  exact fin_rest5 hK ⟨({ p.f with s1 := ({ p.f.s1 with sh := true = true } : Rl) } : F5)⟩ (by dsimp only [po_rest5] <;> (first | (exfalso ; omega) | exact ⟨by exact ⟨tr_shutO (i := 0) hinv rfl _, frz_other (i := 0) rfl fun _ => ⟨rfl, rfl⟩⟩, by first | rfl | exact hi0.2⟩))
  refine ifP (fun hc4 => ?_) (fun hc4 => ?_)
  exact fin_rest5 hK ⟨({ p.f with s2 := ({ p.f.s2 with sh := true = true } : Rl) } : F5)⟩ (by dsimp only [po_rest5] <;> (first | (exfalso ; omega) | exact ⟨by exact ⟨tr_shutO (i := 1) hinv rfl _, frz_other (i := 1) rfl fun _ => ⟨rfl, rfl⟩⟩, by first | rfl | exact hi0.2⟩))
  refine ifP (fun hc5 => ?_) (fun hc5 => ?_)
  exact fin_rest5 hK ⟨({ p.f with s3 := ({ p.f.s3 with sh := true = true } : Rl) } : F5)⟩ (by dsimp only [po_rest5] <;> (first | (exfalso ; omega) | exact ⟨by exact ⟨tr_shutO (i := 2) hinv rfl _, frz_other (i := 2) rfl fun _ => ⟨rfl, rfl⟩⟩, by first | rfl | exact hi0.2⟩))
  refine ifP (fun hc6 => ?_) (fun hc6 => ?_)
  exact fin_rest5 hK ⟨({ p.f with s4 := ({ p.f.s4 with sh := true = true } : Rl) } : F5)⟩ (by dsimp only [po_rest5] <;> (first | (exfalso ; omega) | exact ⟨by exact ⟨tr_shutO (i := 3) hinv rfl _, frz_other (i := 3) rfl fun _ => ⟨rfl, rfl⟩⟩, by first | rfl | exact hi0.2⟩))
  refine mustP (by omega) ?_
  rfl
  refine ifP (fun hc7 => ?_) (fun hc7 => ?_)
  refine ifP (fun hc8 => ?_) (fun hc8 => ?_)
  refine mustP (by omega) ?_
  refine mustP (by simp only [InR] ; omega) ?_
  refine mustP (by omega) ?_
  refine mustP (by first | omega | (constructor <;> omega)) ?_
  refine mustP (by omega) ?_
  refine allB_mk (fun x1 => ?_)
  refine ifP (fun hi9 => ?_) (fun _ => rfl)
  have hm := hinv.msgs x1 (List.mem_of_getElem? (by assumption))
  refine ifP (fun hc10 => ?_) (fun hc10 => ?_)
  refine mustP (by first | omega | (simp ; omega)) ?_
  refine mustP (by simp only [InR] ; omega) ?_
  refine mustP (by first | omega | (simp ; omega)) ?_
  refine mustP (rfl) ?_
  refine mustP (by first | omega | (simp ; omega)) ?_
  refine mustP (rfl) ?_
  refine mustP (rfl) ?_
  refine mustP (by first | omega | (simp ; omega)) ?_
  refine mustP (rfl) ?_
  refine mustP (by (first | omega | (simp [limP] <;> omega))) ?_
  refine ifP (fun hc11 => ?_) (fun hc11 => ?_)
  have hc11l : (((p.f.fly.drop 0).take (((Int.tmod ((Int.tmod p.i p.kk) + p.kk) p.kk).toNat) - 0))).length = 0 := (by rw [hc11] ; rfl)
  refine mustP (rfl) ?_
  refine mustP (by first | omega | (simp ; omega)) ?_
  refine mustP (rfl) ?_
  refine mustP (by (first | omega | (simp [limP] <;> omega))) ?_
  refine ifP (fun hc12 => ?_) (fun hc12 => ?_)
  have hc12l : (((p.f.fly.drop (((Int.tmod ((Int.tmod p.i p.kk) + p.kk) p.kk) + (1 : Int)).toNat)).take (p.f.fly.length - (((Int.tmod ((Int.tmod p.i p.kk) + p.kk) p.kk) + (1 : Int)).toNat)))).length = 0 := (by rw [hc12] ; rfl)
  refine mustP (rfl) ?_
  refine ifP (fun hc13 => ?_) (fun hc13 => ?_)
  refine callPR (⟨({ p.f with fly := ([] : List Told) } : F5), ⟨x1.to, x1.fr, x1.c, x1.h, x1.l⟩⟩ : A_come5) rfl (by (try dsimp only [pre_come5]) ; exact ⟨(hinv.sub (fun _ h => by simp at h) (by simp)), hm⟩) fun r1 hi14 => ?_
  dsimp only [po_come5] at hi14
  exact fin_rest5 hK ⟨r1.f⟩ (by dsimp only [po_rest5] <;> (first | (exfalso ; omega) | exact ⟨by exact hi14.1, by first | rfl | exact hi14.2⟩))
  exact fin_rest5 hK ⟨({ p.f with fly := ([] : List Told) } : F5)⟩ (by dsimp only [po_rest5] <;> (first | (exfalso ; omega) | exact ⟨by exact ⟨(hinv.sub (fun _ h => by simp at h) (by simp)), Frz.refl _⟩, by first | rfl | exact hi9.2⟩))
  have hc12l : 0 < (((p.f.fly.drop (((Int.tmod ((Int.tmod p.i p.kk) + p.kk) p.kk) + (1 : Int)).toNat)).take (p.f.fly.length - (((Int.tmod ((Int.tmod p.i p.kk) + p.kk) p.kk) + (1 : Int)).toNat)))).length := List.length_pos_iff.2 hc12
  refine mustP (by simp [limP] ; omega) ?_
  refine ifP (fun hc15 => ?_) (fun hc15 => ?_)
  refine callPR (⟨({ p.f with fly := (p.f.fly.drop (((Int.tmod ((Int.tmod p.i p.kk) + p.kk) p.kk) + (1 : Int)).toNat)).take (p.f.fly.length - (((Int.tmod ((Int.tmod p.i p.kk) + p.kk) p.kk) + (1 : Int)).toNat)) } : F5), ⟨x1.to, x1.fr, x1.c, x1.h, x1.l⟩⟩ : A_come5) rfl (by (try dsimp only [pre_come5]) ; exact ⟨(hinv.sub sub_one (by simp ; omega)), hm⟩) fun r2 hi16 => ?_
  dsimp only [po_come5] at hi16
  exact fin_rest5 hK ⟨r2.f⟩ (by dsimp only [po_rest5] <;> (first | (exfalso ; omega) | exact ⟨by exact hi16.1, by first | rfl | exact hi16.2⟩))
  exact fin_rest5 hK ⟨({ p.f with fly := (p.f.fly.drop (((Int.tmod ((Int.tmod p.i p.kk) + p.kk) p.kk) + (1 : Int)).toNat)).take (p.f.fly.length - (((Int.tmod ((Int.tmod p.i p.kk) + p.kk) p.kk) + (1 : Int)).toNat)) } : F5)⟩ (by dsimp only [po_rest5] <;> (first | (exfalso ; omega) | exact ⟨by exact ⟨(hinv.sub sub_one (by simp ; omega)), Frz.refl _⟩, by first | rfl | exact hi9.2⟩))
  have hc11l : 0 < (((p.f.fly.drop 0).take (((Int.tmod ((Int.tmod p.i p.kk) + p.kk) p.kk).toNat) - 0))).length := List.length_pos_iff.2 hc11
  refine mustP (by simp [limP] ; omega) ?_
  refine mustP (rfl) ?_
  refine mustP (by first | omega | (simp ; omega)) ?_
  refine mustP (rfl) ?_
  refine mustP (by (first | omega | (simp [limP] <;> omega))) ?_
  refine mustP (rfl) ?_
  refine ifP (fun hc17 => ?_) (fun hc17 => ?_)
  have hc17l : (((p.f.fly.drop (((Int.tmod ((Int.tmod p.i p.kk) + p.kk) p.kk) + (1 : Int)).toNat)).take (p.f.fly.length - (((Int.tmod ((Int.tmod p.i p.kk) + p.kk) p.kk) + (1 : Int)).toNat)))).length = 0 := (by rw [hc17] ; rfl)
  refine ifP (fun hc18 => ?_) (fun hc18 => ?_)
  refine callPR (⟨({ p.f with fly := (p.f.fly.drop 0).take (((Int.tmod ((Int.tmod p.i p.kk) + p.kk) p.kk).toNat) - 0) } : F5), ⟨x1.to, x1.fr, x1.c, x1.h, x1.l⟩⟩ : A_come5) rfl (by (try dsimp only [pre_come5]) ; exact ⟨(hinv.sub sub_one (by simp ; omega)), hm⟩) fun r4 hi19 => ?_
  dsimp only [po_come5] at hi19
  exact fin_rest5 hK ⟨r4.f⟩ (by dsimp only [po_rest5] <;> (first | (exfalso ; omega) | exact ⟨by exact hi19.1, by first | rfl | exact hi19.2⟩))
  exact fin_rest5 hK ⟨({ p.f with fly := (p.f.fly.drop 0).take (((Int.tmod ((Int.tmod p.i p.kk) + p.kk) p.kk).toNat) - 0) } : F5)⟩ (by dsimp only [po_rest5] <;> (first | (exfalso ; omega) | exact ⟨by exact ⟨(hinv.sub sub_one (by simp ; omega)), Frz.refl _⟩, by first | rfl | exact hi9.2⟩))
  have hc17l : 0 < (((p.f.fly.drop (((Int.tmod ((Int.tmod p.i p.kk) + p.kk) p.kk) + (1 : Int)).toNat)).take (p.f.fly.length - (((Int.tmod ((Int.tmod p.i p.kk) + p.kk) p.kk) + (1 : Int)).toNat)))).length := List.length_pos_iff.2 hc17
  refine exB_mk ((p.f.fly.drop (((Int.tmod ((Int.tmod p.i p.kk) + p.kk) p.kk) + (1 : Int)).toNat)).take (p.f.fly.length - (((Int.tmod ((Int.tmod p.i p.kk) + p.kk) p.kk) + (1 : Int)).toNat))) ?_
  refine mustP (show rowsR (((p.f.fly.drop (((Int.tmod ((Int.tmod p.i p.kk) + p.kk) p.kk) + (1 : Int)).toNat)).take (p.f.fly.length - (((Int.tmod ((Int.tmod p.i p.kk) + p.kk) p.kk) + (1 : Int)).toNat))).map encT) (((p.f.fly.drop (((Int.tmod ((Int.tmod p.i p.kk) + p.kk) p.kk) + (1 : Int)).toNat)).take (p.f.fly.length - (((Int.tmod ((Int.tmod p.i p.kk) + p.kk) p.kk) + (1 : Int)).toNat))).map encT) from rowsR_refl _) ?_
  refine mustP (by simp [limP] ; omega) ?_
  refine ifP (fun hc20 => ?_) (fun hc20 => ?_)
  refine callPR (⟨({ p.f with fly := ((p.f.fly.drop 0).take (((Int.tmod ((Int.tmod p.i p.kk) + p.kk) p.kk).toNat) - 0)) ++ ((p.f.fly.drop (((Int.tmod ((Int.tmod p.i p.kk) + p.kk) p.kk) + (1 : Int)).toNat)).take (p.f.fly.length - (((Int.tmod ((Int.tmod p.i p.kk) + p.kk) p.kk) + (1 : Int)).toNat))) } : F5), ⟨x1.to, x1.fr, x1.c, x1.h, x1.l⟩⟩ : A_come5) rfl (by (try dsimp only [pre_come5]) ; exact ⟨(hinv.sub sub_cut (by simp ; omega)), hm⟩) fun r3 hi21 => ?_
  dsimp only [po_come5] at hi21
  exact fin_rest5 hK ⟨r3.f⟩ (by dsimp only [po_rest5] <;> (first | (exfalso ; omega) | exact ⟨by exact hi21.1, by first | rfl | exact hi21.2⟩))
  exact fin_rest5 hK ⟨({ p.f with fly := ((p.f.fly.drop 0).take (((Int.tmod ((Int.tmod p.i p.kk) + p.kk) p.kk).toNat) - 0)) ++ ((p.f.fly.drop (((Int.tmod ((Int.tmod p.i p.kk) + p.kk) p.kk) + (1 : Int)).toNat)).take (p.f.fly.length - (((Int.tmod ((Int.tmod p.i p.kk) + p.kk) p.kk) + (1 : Int)).toNat))) } : F5)⟩ (by dsimp only [po_rest5] <;> (first | (exfalso ; omega) | exact ⟨by exact ⟨(hinv.sub sub_cut (by simp ; omega)), Frz.refl _⟩, by first | rfl | exact hi9.2⟩))
  refine ifP (fun hc22 => ?_) (fun hc22 => ?_)
  refine callPR (⟨p.f, ⟨x1.to, x1.fr, x1.c, x1.h, x1.l⟩⟩ : A_come5) rfl (by (try dsimp only [pre_come5]) ; exact ⟨hinv, hm⟩) fun r5 hi23 => ?_
  dsimp only [po_come5] at hi23
  exact fin_rest5 hK ⟨r5.f⟩ (by dsimp only [po_rest5] <;> (first | (exfalso ; omega) | exact ⟨by exact hi23.1, by first | rfl | exact hi23.2⟩))
  exact fin_rest5 hK ⟨p.f⟩ (by dsimp only [po_rest5] <;> (first | (exfalso ; omega) | exact ⟨by exact ⟨hinv, Frz.refl _⟩, by first | rfl | exact hi9.2⟩))
  exact fin_rest5 hK ⟨p.f⟩ (by dsimp only [po_rest5] <;> (first | (exfalso ; omega) | exact ⟨by exact ⟨hinv, Frz.refl _⟩, by first | rfl | exact hi0.2⟩))
  exact fin_rest5 hK ⟨p.f⟩ (by dsimp only [po_rest5] <;> (first | (exfalso ; omega) | exact ⟨by exact ⟨hinv, Frz.refl _⟩, by first | rfl | exact hi0.2⟩))
theorem lo_rest5 : LpOk Try.prog 203 1 lp_step5 false 0 bd_rest5 := by
  refine sp_of (lf := 600) tb_mix (cfT_ok nat_come5_ok) (by rfl) (fun b j x h => by cases h) (fun S M nx K h => ?_)
  obtain ⟨p, h⟩ := exB_ok h
  obtain ⟨e, h9⟩ := mustP_ok h
  clear h
  have e1 : S = (I_rest5 p).1 := congrArg Prod.fst e
  have e2 : M = (I_rest5 p).2.1 := congrArg (fun x => x.2.1) e
  have e3 : nx = (I_rest5 p).2.2 := congrArg (fun x => x.2.2) e
  subst e1; subst e2; subst e3
  exact vb_rest5 p K (mustP_ok h9).1 (mustP_ok h9).2
structure A_step5 where
  f : F5
  k : Int
  x : Int
  nn : Int
  i : Int
structure R_step5 where
  f : F5
def po_step5 (p : A_step5) (r : R_step5) : Prop := (FI5 r.f ∧ Fr5 p.f r.f) ∧ 0 ≤ r.f.cnt ∧ r.f.cnt ≤ p.f.cnt + 1
noncomputable def I_step5 (p : A_step5) : IE := ([.ptr 0 0, .agg [.sy (.int 0 p.k), .sy (.int 0 p.x), .sy (.int 0 p.nn), .sy (.int 0 p.i)]], (Fd5n p.f), 23)
noncomputable def out_step5 (p : A_step5) (K : KE) : Bool := allB fun r : R_step5 => ifB (prB (po_step5 p r)) (K (.tup []) (Fd5n r.f) 23) true
def pre_step5 (p : A_step5) : Prop := FI5 p.f ∧ 0 ≤ p.f.cnt ∧ p.f.cnt ≤ 1000000
theorem fin_step5 {p : A_step5} {K : KE} (hK : out_step5 p K = true) (r : R_step5) (h : po_step5 p r) : K (.tup []) (Fd5n r.f) 23 = true := ifB_use h (allB_ok hK r)
theorem vf_step5 (p : A_step5) (K : KE) (hpre : pre_step5 p) (hK : out_step5 p K = true) : (funE 1 (cfT nat_come5) lp_step5 600 ft_step5 (I_step5 p).1 (I_step5 p).2.1 (I_step5 p).2.2 K) = true := by
  refine Eq.trans (b := (let y0 : Int := (Int.tmod ((Int.tmod p.x (5 : Int)) + (5 : Int)) (5 : Int)); let y1 : Int := ((Int.tmod p.nn (3 : Int)) + (3 : Int)); must (prB ((5 : Int) ≠ 0)) (must (prB (InR 0 ((Int.tmod p.x (5 : Int)) + (5 : Int)))) (must (prB ((5 : Int) ≠ 0)) (ifB (prB (p.k = (0 : Int))) (must (prB (InR 0 (p.f.cnt + (1 : Int)))) (must (prB ((16 : Int) ≠ 0)) (must (prB (InR 1 (Int.tmod (p.f.cnt + (1 : Int)) (16 : Int)))) (exB fun p1 : A_add5 => must (prB (([.ptr 0 0, .agg [.int 1 (.ofNat 2), .int 1 (.ofNat 0), .int 2 (.ofNat 0), .int 3 (.ofNat 0), .int 1 (.ofNat 0), .int 1 (.ofNat 0), .int 1 (.ofNat 0), .int 1 (.ofNat 0), .int 1 (.ofNat 0), .int 1 (.ofNat 0), .int 1 (.ofNat 0), .int 3 (.ofNat 0), .nilS, .int 1 (.ofNat 0), .str [], .nilS, .sy (.int 1 (Int.tmod (p.f.cnt + (1 : Int)) (16 : Int))), .int 2 (.ofNat 1)]], (Ro5n p.f.s0.l p.f.s0.com p.f.s0.sh p.f.c0 p.f.c1 p.f.c2 p.f.c3 p.f.c4), 4) = I_add5 p1)) (must (prB (pre_add5 p1)) (allB fun r1 : R_add5 => ifB (prB (po_add5 p1 r1)) (K (.tup []) (Fd5n ⟨⟨r1.l, r1.com, p1.sh⟩, p.f.s1, p.f.s2, p.f.s3, p.f.s4, r1.c0, p1.c1, p1.c2, p1.c3, p1.c4, p.f.fly, p.f.cnt + (1 : Int)⟩) 23) true)))))) (ifB (prB (p.k = (1 : Int))) (ifB (prB ((0 : Int) < y0)) (ifB (prB ((p.f.fly.length : Int) < (100 : Int))) (must (prB ((3 : Int) ≠ 0)) (must (prB (InR 0 y1)) (must (prB ((3 : Int) ≠ 0)) (must (prB (InR 0 ((1 : Int) + (Int.tmod y1 (3 : Int))))) (must (prB (InR 1 y0)) (must (prB (((.int 0 p.nn) : SY) = (.int 0 p.nn))) (exB fun p2 : A_since5 => must (prB (([.ptr 0 0, .agg [.sy (.int 1 y0), .int 2 (.ofNat 1)], .sy (.int 0 ((1 : Int) + (Int.tmod y1 (3 : Int))))], (Ro5n p.f.s0.l p.f.s0.com p.f.s0.sh p.f.c0 p.f.c1 p.f.c2 p.f.c3 p.f.c4), 4) = I_since5 p2)) (must (prB (pre_since5 p2)) (allB fun r2 : R_since5 => ifB (prB (po_since5 p2 r2)) (must (prB (((.prow 2 p.f.fly.length) : SY) = (.prow 2 p.f.fly.length))) (must (prB (((.prow 2 p.f.fly.length) : SY) = (.prow 2 p.f.fly.length))) (must (prB (p.f.fly.length = p.f.fly.length)) (exB fun m1 : List Told => must (prB (rowsR (m1.map encT) [[.sint 0 y0, .sint 0 r2.fr, .sint 0 p2.com, .imm r2.h 18 Int r2.o encK]])) (must (prB (limP 48 (p.f.fly.length + m1.length))) (K (.tup []) (Fd5 ⟨⟨p2.l, p2.com, p2.sh⟩, p.f.s1, p.f.s2, p.f.s3, p.f.s4, p2.c0, p2.c1, p2.c2, p2.c3, p2.c4, p.f.fly ++ m1, p.f.cnt⟩ ((p.f.fly ++ m1).length) p2.l.length p.f.s1.l.length p.f.s2.l.length p.f.s3.l.length p.f.s4.l.length) 23)))))) true))))))))) (ifB (prB (p.k = (2 : Int))) (ifB (prB ((0 : Int) < y0)) (ifB (prB ((p.f.fly.length : Int) < (100 : Int))) (ifB (prB (y0 = 0)) (must (prB (((.prow 2 p.f.fly.length) : SY) = (.prow 2 p.f.fly.length))) (must (prB (((.prow 2 p.f.fly.length) : SY) = (.prow 2 p.f.fly.length))) (must (prB (p.f.fly.length = p.f.fly.length)) (exB fun m6 : List Told => must (prB (rowsR (m6.map encT) [[.int 0 (.ofNat 0), .sint 0 (p.f.s0.l.length : Int), .sint 0 y0, .nilS]])) (must (prB (limP 48 (p.f.fly.length + m6.length))) (K (.tup []) (Fd5 ({ p.f with fly := p.f.fly ++ m6 } : F5) ((p.f.fly ++ m6).length) p.f.s0.l.length p.f.s1.l.length p.f.s2.l.length p.f.s3.l.length p.f.s4.l.length) 23)))))) (ifB (prB (y0 = 1)) (must (prB (((.prow 2 p.f.fly.length) : SY) = (.prow 2 p.f.fly.length))) (must (prB (((.prow 2 p.f.fly.length) : SY) = (.prow 2 p.f.fly.length))) (must (prB (p.f.fly.length = p.f.fly.length)) (exB fun m5 : List Told => must (prB (rowsR (m5.map encT) [[.int 0 (.ofNat 0), .sint 0 (p.f.s1.l.length : Int), .sint 0 y0, .nilS]])) (must (prB (limP 48 (p.f.fly.length + m5.length))) (K (.tup []) (Fd5 ({ p.f with fly := p.f.fly ++ m5 } : F5) ((p.f.fly ++ m5).length) p.f.s0.l.length p.f.s1.l.length p.f.s2.l.length p.f.s3.l.length p.f.s4.l.length) 23)))))) (ifB (prB (y0 = 2)) (must (prB (((.prow 2 p.f.fly.length) : SY) = (.prow 2 p.f.fly.length))) (must (prB (((.prow 2 p.f.fly.length) : SY) = (.prow 2 p.f.fly.length))) (must (prB (p.f.fly.length = p.f.fly.length)) (exB fun m4 : List Told => must (prB (rowsR (m4.map encT) [[.int 0 (.ofNat 0), .sint 0 (p.f.s2.l.length : Int), .sint 0 y0, .nilS]])) (must (prB (limP 48 (p.f.fly.length + m4.length))) (K (.tup []) (Fd5 ({ p.f with fly := p.f.fly ++ m4 } : F5) ((p.f.fly ++ m4).length) p.f.s0.l.length p.f.s1.l.length p.f.s2.l.length p.f.s3.l.length p.f.s4.l.length) 23)))))) (ifB (prB (y0 = 3)) (must (prB (((.prow 2 p.f.fly.length) : SY) = (.prow 2 p.f.fly.length))) (must (prB (((.prow 2 p.f.fly.length) : SY) = (.prow 2 p.f.fly.length))) (must (prB (p.f.fly.length = p.f.fly.length)) (exB fun m3 : List Told => must (prB (rowsR (m3.map encT) [[.int 0 (.ofNat 0), .sint 0 (p.f.s3.l.length : Int), .sint 0 y0, .nilS]])) (must (prB (limP 48 (p.f.fly.length + m3.length))) (K (.tup []) (Fd5 ({ p.f with fly := p.f.fly ++ m3 } : F5) ((p.f.fly ++ m3).length) p.f.s0.l.length p.f.s1.l.length p.f.s2.l.length p.f.s3.l.length p.f.s4.l.length) 23)))))) (ifB (prB (y0 = 4)) (must (prB (((.prow 2 p.f.fly.length) : SY) = (.prow 2 p.f.fly.length))) (must (prB (((.prow 2 p.f.fly.length) : SY) = (.prow 2 p.f.fly.length))) (must (prB (p.f.fly.length = p.f.fly.length)) (exB fun m2 : List Told => must (prB (rowsR (m2.map encT) [[.int 0 (.ofNat 0), .sint 0 (p.f.s4.l.length : Int), .sint 0 y0, .nilS]])) (must (prB (limP 48 (p.f.fly.length + m2.length))) (K (.tup []) (Fd5 ({ p.f with fly := p.f.fly ++ m2 } : F5) ((p.f.fly ++ m2).length) p.f.s0.l.length p.f.s1.l.length p.f.s2.l.length p.f.s3.l.length p.f.s4.l.length) 23)))))) (must (prB (False)) (true))))))) (exB fun p3 : A_rest5 => must (prB (((.cons 5 (.sy (.int 0 (p.f.fly.length : Int))) (.cons 4 (.sy (.int 0 y0)) (.cons 3 (.ptr 1 0) (.cons 0 (.ptr 0 0) .nil)))), (Fb5n p.f p.k p.x p.nn p.i), 24) = I_rest5 p3)) (must (prB (pre_rest5 p3)) (allB fun r3 : R_rest5 => ifB (prB (po_rest5 p3 r3)) (K (.tup []) (Fd5n r3.f) 23) true)))) (exB fun p4 : A_rest5 => must (prB (((.cons 5 (.sy (.int 0 (p.f.fly.length : Int))) (.cons 4 (.sy (.int 0 y0)) (.cons 3 (.ptr 1 0) (.cons 0 (.ptr 0 0) .nil)))), (Fb5n p.f p.k p.x p.nn p.i), 24) = I_rest5 p4)) (must (prB (pre_rest5 p4)) (allB fun r4 : R_rest5 => ifB (prB (po_rest5 p4 r4)) (K (.tup []) (Fd5n r4.f) 23) true)))) (exB fun p5 : A_rest5 => must (prB (((.cons 5 (.sy (.int 0 (p.f.fly.length : Int))) (.cons 4 (.sy (.int 0 y0)) (.cons 3 (.ptr 1 0) (.cons 0 (.ptr 0 0) .nil)))), (Fb5n p.f p.k p.x p.nn p.i), 24) = I_rest5 p5)) (must (prB (pre_rest5 p5)) (allB fun r5 : R_rest5 => ifB (prB (po_rest5 p5 r5)) (K (.tup []) (Fd5n r5.f) 23) true))))) (ifB (prB (p.k = (2 : Int))) (ifB (prB ((0 : Int) < y0)) (ifB (prB ((p.f.fly.length : Int) < (100 : Int))) (ifB (prB (y0 = 0)) (must (prB (((.prow 2 p.f.fly.length) : SY) = (.prow 2 p.f.fly.length))) (must (prB (((.prow 2 p.f.fly.length) : SY) = (.prow 2 p.f.fly.length))) (must (prB (p.f.fly.length = p.f.fly.length)) (exB fun m11 : List Told => must (prB (rowsR (m11.map encT) [[.int 0 (.ofNat 0), .sint 0 (p.f.s0.l.length : Int), .sint 0 y0, .nilS]])) (must (prB (limP 48 (p.f.fly.length + m11.length))) (K (.tup []) (Fd5 ({ p.f with fly := p.f.fly ++ m11 } : F5) ((p.f.fly ++ m11).length) p.f.s0.l.length p.f.s1.l.length p.f.s2.l.length p.f.s3.l.length p.f.s4.l.length) 23)))))) (ifB (prB (y0 = 1)) (must (prB (((.prow 2 p.f.fly.length) : SY) = (.prow 2 p.f.fly.length))) (must (prB (((.prow 2 p.f.fly.length) : SY) = (.prow 2 p.f.fly.length))) (must (prB (p.f.fly.length = p.f.fly.length)) (exB fun m10 : List Told => must (prB (rowsR (m10.map encT) [[.int 0 (.ofNat 0), .sint 0 (p.f.s1.l.length : Int), .sint 0 y0, .nilS]])) (must (prB (limP 48 (p.f.fly.length + m10.length))) (K (.tup []) (Fd5 ({ p.f with fly := p.f.fly ++ m10 } : F5) ((p.f.fly ++ m10).length) p.f.s0.l.length p.f.s1.l.length p.f.s2.l.length p.f.s3.l.length p.f.s4.l.length) 23)))))) (ifB (prB (y0 = 2)) (must (prB (((.prow 2 p.f.fly.length) : SY) = (.prow 2 p.f.fly.length))) (must (prB (((.prow 2 p.f.fly.length) : SY) = (.prow 2 p.f.fly.length))) (must (prB (p.f.fly.length = p.f.fly.length)) (exB fun m9 : List Told => must (prB (rowsR (m9.map encT) [[.int 0 (.ofNat 0), .sint 0 (p.f.s2.l.length : Int), .sint 0 y0, .nilS]])) (must (prB (limP 48 (p.f.fly.length + m9.length))) (K (.tup []) (Fd5 ({ p.f with fly := p.f.fly ++ m9 } : F5) ((p.f.fly ++ m9).length) p.f.s0.l.length p.f.s1.l.length p.f.s2.l.length p.f.s3.l.length p.f.s4.l.length) 23)))))) (ifB (prB (y0 = 3)) (must (prB (((.prow 2 p.f.fly.length) : SY) = (.prow 2 p.f.fly.length))) (must (prB (((.prow 2 p.f.fly.length) : SY) = (.prow 2 p.f.fly.length))) (must (prB (p.f.fly.length = p.f.fly.length)) (exB fun m8 : List Told => must (prB (rowsR (m8.map encT) [[.int 0 (.ofNat 0), .sint 0 (p.f.s3.l.length : Int), .sint 0 y0, .nilS]])) (must (prB (limP 48 (p.f.fly.length + m8.length))) (K (.tup []) (Fd5 ({ p.f with fly := p.f.fly ++ m8 } : F5) ((p.f.fly ++ m8).length) p.f.s0.l.length p.f.s1.l.length p.f.s2.l.length p.f.s3.l.length p.f.s4.l.length) 23)))))) (ifB (prB (y0 = 4)) (must (prB (((.prow 2 p.f.fly.length) : SY) = (.prow 2 p.f.fly.length))) (must (prB (((.prow 2 p.f.fly.length) : SY) = (.prow 2 p.f.fly.length))) (must (prB (p.f.fly.length = p.f.fly.length)) (exB fun m7 : List Told => must (prB (rowsR (m7.map encT) [[.int 0 (.ofNat 0), .sint 0 (p.f.s4.l.length : Int), .sint 0 y0, .nilS]])) (must (prB (limP 48 (p.f.fly.length + m7.length))) (K (.tup []) (Fd5 ({ p.f with fly := p.f.fly ++ m7 } : F5) ((p.f.fly ++ m7).length) p.f.s0.l.length p.f.s1.l.length p.f.s2.l.length p.f.s3.l.length p.f.s4.l.length) 23)))))) (must (prB (False)) (true))))))) (exB fun p6 : A_rest5 => must (prB (((.cons 5 (.sy (.int 0 (p.f.fly.length : Int))) (.cons 4 (.sy (.int 0 y0)) (.cons 3 (.ptr 1 0) (.cons 0 (.ptr 0 0) .nil)))), (Fb5n p.f p.k p.x p.nn p.i), 24) = I_rest5 p6)) (must (prB (pre_rest5 p6)) (allB fun r6 : R_rest5 => ifB (prB (po_rest5 p6 r6)) (K (.tup []) (Fd5n r6.f) 23) true)))) (exB fun p7 : A_rest5 => must (prB (((.cons 5 (.sy (.int 0 (p.f.fly.length : Int))) (.cons 4 (.sy (.int 0 y0)) (.cons 3 (.ptr 1 0) (.cons 0 (.ptr 0 0) .nil)))), (Fb5n p.f p.k p.x p.nn p.i), 24) = I_rest5 p7)) (must (prB (pre_rest5 p7)) (allB fun r7 : R_rest5 => ifB (prB (po_rest5 p7 r7)) (K (.tup []) (Fd5n r7.f) 23) true)))) (exB fun p8 : A_rest5 => must (prB (((.cons 5 (.sy (.int 0 (p.f.fly.length : Int))) (.cons 4 (.sy (.int 0 y0)) (.cons 3 (.ptr 1 0) (.cons 0 (.ptr 0 0) .nil)))), (Fb5n p.f p.k p.x p.nn p.i), 24) = I_rest5 p8)) (must (prB (pre_rest5 p8)) (allB fun r8 : R_rest5 => ifB (prB (po_rest5 p8 r8)) (K (.tup []) (Fd5n r8.f) 23) true))))) (ifB (prB (p.k = (2 : Int))) (ifB (prB ((0 : Int) < y0)) (ifB (prB ((p.f.fly.length : Int) < (100 : Int))) (ifB (prB (y0 = 0)) (must (prB (((.prow 2 p.f.fly.length) : SY) = (.prow 2 p.f.fly.length))) (must (prB (((.prow 2 p.f.fly.length) : SY) = (.prow 2 p.f.fly.length))) (must (prB (p.f.fly.length = p.f.fly.length)) (exB fun m16 : List Told => must (prB (rowsR (m16.map encT) [[.int 0 (.ofNat 0), .sint 0 (p.f.s0.l.length : Int), .sint 0 y0, .nilS]])) (must (prB (limP 48 (p.f.fly.length + m16.length))) (K (.tup []) (Fd5 ({ p.f with fly := p.f.fly ++ m16 } : F5) ((p.f.fly ++ m16).length) p.f.s0.l.length p.f.s1.l.length p.f.s2.l.length p.f.s3.l.length p.f.s4.l.length) 23)))))) (ifB (prB (y0 = 1)) (must (prB (((.prow 2 p.f.fly.length) : SY) = (.prow 2 p.f.fly.length))) (must (prB (((.prow 2 p.f.fly.length) : SY) = (.prow 2 p.f.fly.length))) (must (prB (p.f.fly.length = p.f.fly.length)) (exB fun m15 : List Told => must (prB (rowsR (m15.map encT) [[.int 0 (.ofNat 0), .sint 0 (p.f.s1.l.length : Int), .sint 0 y0, .nilS]])) (must (prB (limP 48 (p.f.fly.length + m15.length))) (K (.tup []) (Fd5 ({ p.f with fly := p.f.fly ++ m15 } : F5) ((p.f.fly ++ m15).length) p.f.s0.l.length p.f.s1.l.length p.f.s2.l.length p.f.s3.l.length p.f.s4.l.length) 23)))))) (ifB (prB (y0 = 2)) (must (prB (((.prow 2 p.f.fly.length) : SY) = (.prow 2 p.f.fly.length))) (must (prB (((.prow 2 p.f.fly.length) : SY) = (.prow 2 p.f.fly.length))) (must (prB (p.f.fly.length = p.f.fly.length)) (exB fun m14 : List Told => must (prB (rowsR (m14.map encT) [[.int 0 (.ofNat 0), .sint 0 (p.f.s2.l.length : Int), .sint 0 y0, .nilS]])) (must (prB (limP 48 (p.f.fly.length + m14.length))) (K (.tup []) (Fd5 ({ p.f with fly := p.f.fly ++ m14 } : F5) ((p.f.fly ++ m14).length) p.f.s0.l.length p.f.s1.l.length p.f.s2.l.length p.f.s3.l.length p.f.s4.l.length) 23)))))) (ifB (prB (y0 = 3)) (must (prB (((.prow 2 p.f.fly.length) : SY) = (.prow 2 p.f.fly.length))) (must (prB (((.prow 2 p.f.fly.length) : SY) = (.prow 2 p.f.fly.length))) (must (prB (p.f.fly.length = p.f.fly.length)) (exB fun m13 : List Told => must (prB (rowsR (m13.map encT) [[.int 0 (.ofNat 0), .sint 0 (p.f.s3.l.length : Int), .sint 0 y0, .nilS]])) (must (prB (limP 48 (p.f.fly.length + m13.length))) (K (.tup []) (Fd5 ({ p.f with fly := p.f.fly ++ m13 } : F5) ((p.f.fly ++ m13).length) p.f.s0.l.length p.f.s1.l.length p.f.s2.l.length p.f.s3.l.length p.f.s4.l.length) 23)))))) (ifB (prB (y0 = 4)) (must (prB (((.prow 2 p.f.fly.length) : SY) = (.prow 2 p.f.fly.length))) (must (prB (((.prow 2 p.f.fly.length) : SY) = (.prow 2 p.f.fly.length))) (must (prB (p.f.fly.length = p.f.fly.length)) (exB fun m12 : List Told => must (prB (rowsR (m12.map encT) [[.int 0 (.ofNat 0), .sint 0 (p.f.s4.l.length : Int), .sint 0 y0, .nilS]])) (must (prB (limP 48 (p.f.fly.length + m12.length))) (K (.tup []) (Fd5 ({ p.f with fly := p.f.fly ++ m12 } : F5) ((p.f.fly ++ m12).length) p.f.s0.l.length p.f.s1.l.length p.f.s2.l.length p.f.s3.l.length p.f.s4.l.length) 23)))))) (must (prB (False)) (true))))))) (exB fun p9 : A_rest5 => must (prB (((.cons 5 (.sy (.int 0 (p.f.fly.length : Int))) (.cons 4 (.sy (.int 0 y0)) (.cons 3 (.ptr 1 0) (.cons 0 (.ptr 0 0) .nil)))), (Fb5n p.f p.k p.x p.nn p.i), 24) = I_rest5 p9)) (must (prB (pre_rest5 p9)) (allB fun r9 : R_rest5 => ifB (prB (po_rest5 p9 r9)) (K (.tup []) (Fd5n r9.f) 23) true)))) (exB fun p10 : A_rest5 => must (prB (((.cons 5 (.sy (.int 0 (p.f.fly.length : Int))) (.cons 4 (.sy (.int 0 y0)) (.cons 3 (.ptr 1 0) (.cons 0 (.ptr 0 0) .nil)))), (Fb5n p.f p.k p.x p.nn p.i), 24) = I_rest5 p10)) (must (prB (pre_rest5 p10)) (allB fun r10 : R_rest5 => ifB (prB (po_rest5 p10 r10)) (K (.tup []) (Fd5n r10.f) 23) true)))) (exB fun p11 : A_rest5 => must (prB (((.cons 5 (.sy (.int 0 (p.f.fly.length : Int))) (.cons 4 (.sy (.int 0 y0)) (.cons 3 (.ptr 1 0) (.cons 0 (.ptr 0 0) .nil)))), (Fb5n p.f p.k p.x p.nn p.i), 24) = I_rest5 p11)) (must (prB (pre_rest5 p11)) (allB fun r11 : R_rest5 => ifB (prB (po_rest5 p11 r11)) (K (.tup []) (Fd5n r11.f) 23) true)))))))))) (by kernel_rfl) ?_
  dsimp only [pre_step5] at hpre
  obtain ⟨hinv, k1, k2⟩ := hpre
  have hinv : FInv p.f.s0 _ _ p.f.fly := hinv
  have hs : p.f.s0.l.length ≤ 400 := hinv.short
  have hfew : p.f.fly.length ≤ 100 := hinv.few
  have f0 : p.f.c0 ≤ (p.f.s0.l.length : Int) ∧ 0 ≤ p.f.c0 ∧ p.f.s0.l.length ≤ p.f.s0.l.length := ⟨(hinv.each 0 _ _ rfl rfl).cl, (hinv.each 0 _ _ rfl rfl).c0, (hinv.each 0 _ _ rfl rfl).len⟩
  have f1 : p.f.c1 ≤ (p.f.s1.l.length : Int) ∧ 0 ≤ p.f.c1 ∧ p.f.s1.l.length ≤ p.f.s0.l.length := ⟨(hinv.each 1 _ _ rfl rfl).cl, (hinv.each 1 _ _ rfl rfl).c0, (hinv.each 1 _ _ rfl rfl).len⟩
  have f2 : p.f.c2 ≤ (p.f.s2.l.length : Int) ∧ 0 ≤ p.f.c2 ∧ p.f.s2.l.length ≤ p.f.s0.l.length := ⟨(hinv.each 2 _ _ rfl rfl).cl, (hinv.each 2 _ _ rfl rfl).c0, (hinv.each 2 _ _ rfl rfl).len⟩
  have f3 : p.f.c3 ≤ (p.f.s3.l.length : Int) ∧ 0 ≤ p.f.c3 ∧ p.f.s3.l.length ≤ p.f.s0.l.length := ⟨(hinv.each 3 _ _ rfl rfl).cl, (hinv.each 3 _ _ rfl rfl).c0, (hinv.each 3 _ _ rfl rfl).len⟩
  have f4 : p.f.c4 ≤ (p.f.s4.l.length : Int) ∧ 0 ≤ p.f.c4 ∧ p.f.s4.l.length ≤ p.f.s0.l.length := ⟨(hinv.each 4 _ _ rfl rfl).cl, (hinv.each 4 _ _ rfl rfl).c0, (hinv.each 4 _ _ rfl rfl).len⟩
  have t1 := tmb 5 (by decide) p.x
  have t2 := tmp 5 (by decide) (p.x.tmod 5 + 5) (by omega)
  have t3 := tmb 3 (by decide) p.nn
  have t4 := tmp 3 (by decide) (p.nn.tmod 3 + 3) (by omega)
  have t5 := tmp 16 (by decide) (p.f.cnt + 1) (by omega)
  refine mustP (by decide) ?_
  refine mustP (by simp only [InR] ; omega) ?_
  refine mustP (by decide) ?_
  refine ifP (fun hc1 => ?_) (fun hc1 => ?_)
  refine mustP (by simp only [InR] ; omega) ?_
  refine mustP (by decide) ?_
  refine mustP (by simp only [InR] ; omega) ?_
  refine callPR (⟨p.f.s0.l, p.f.s0.com, p.f.s0.sh, p.f.c0, p.f.c1, p.f.c2, p.f.c3, p.f.c4, Int.tmod (p.f.cnt + (1 : Int)) (16 : Int)⟩ : A_add5) rfl (by (try dsimp only [pre_add5]) ; omega) fun r1 hi2 => ?_
  dsimp only [po_add5] at hi2
  exact fin_step5 hK ⟨⟨⟨r1.l, r1.com, p.f.s0.sh⟩, p.f.s1, p.f.s2, p.f.s3, p.f.s4, r1.c0, p.f.c1, p.f.c2, p.f.c3, p.f.c4, p.f.fly, p.f.cnt + (1 : Int)⟩⟩ (by dsimp only [po_step5] <;> (refine ⟨?_, by omega, by omega⟩ ; first | (exfalso ; omega) | exact tr_add (maj := 3) hinv (by simp) (by assumption)))
  refine ifP (fun hc3 => ?_) (fun hc3 => ?_)
  refine ifP (fun hc4 => ?_) (fun hc4 => ?_)
  refine ifP (fun hc5 => ?_) (fun hc5 => ?_)
  refine mustP (by decide) ?_
  refine mustP (by simp only [InR] ; omega) ?_
  refine mustP (by decide) ?_
  refine mustP (by simp only [InR] ; omega) ?_
  refine mustP (by simp only [InR] ; omega) ?_
  refine mustP (rfl) ?_
  refine callPR (⟨p.f.s0.l, p.f.s0.com, p.f.s0.sh, p.f.c0, p.f.c1, p.f.c2, p.f.c3, p.f.c4, Int.tmod ((Int.tmod p.x (5 : Int)) + (5 : Int)) (5 : Int), (1 : Int) + (Int.tmod ((Int.tmod p.nn (3 : Int)) + (3 : Int)) (3 : Int))⟩ : A_since5) rfl (by (try dsimp only [pre_since5]) ; omega) fun r2 hi6 => ?_
  dsimp only [po_since5] at hi6
  refine mustP (rfl) ?_
  refine mustP (rfl) ?_
  refine mustP (rfl) ?_
  refine exB_mk [⟨Int.tmod ((Int.tmod p.x (5 : Int)) + (5 : Int)) (5 : Int), r2.fr, p.f.s0.com, r2.h, r2.o⟩] ?_
  refine mustP (show rowsR ([⟨Int.tmod ((Int.tmod p.x (5 : Int)) + (5 : Int)) (5 : Int), r2.fr, p.f.s0.com, r2.h, r2.o⟩].map encT) [[.sint 0 (Int.tmod ((Int.tmod p.x (5 : Int)) + (5 : Int)) (5 : Int)), .sint 0 r2.fr, .sint 0 p.f.s0.com, .imm r2.h 18 Int r2.o encK]] from ⟨⟨.inl rfl, ⟨.inl rfl, ⟨.inl rfl, ⟨.inl rfl, trivial⟩⟩⟩⟩, trivial⟩) ?_
  refine mustP (by simp [limP] ; omega) ?_
  exact fin_step5 hK ⟨⟨⟨p.f.s0.l, p.f.s0.com, p.f.s0.sh⟩, p.f.s1, p.f.s2, p.f.s3, p.f.s4, p.f.c0, p.f.c1, p.f.c2, p.f.c3, p.f.c4, p.f.fly ++ [⟨Int.tmod ((Int.tmod p.x (5 : Int)) + (5 : Int)) (5 : Int), r2.fr, p.f.s0.com, r2.h, r2.o⟩], p.f.cnt⟩⟩ (by dsimp only [po_step5] <;> (refine ⟨?_, by omega, by omega⟩ ; first | (exfalso ; omega) | exact ⟨tr_since (m := 5) hinv (by omega) (by simp) (by omega) (by assumption), Frz.refl _⟩))
  refine ifP (fun hc7 => ?_) (fun hc7 => ?_)
  refine ifP (fun hc8 => ?_) (fun hc8 => ?_)
  refine ifP (fun hc9 => ?_) (fun hc9 => ?_)
  refine ifP (fun hc10 => ?_) (fun hc10 => ?_)
  refine mustP (rfl) ?_
  refine mustP (rfl) ?_
  refine mustP (rfl) ?_
  refine exB_mk [⟨(0 : Int), (p.f.s0.l.length : Int), Int.tmod ((Int.tmod p.x (5 : Int)) + (5 : Int)) (5 : Int), (.slice none 0 0), []⟩] ?_
  refine mustP (show rowsR ([⟨(0 : Int), (p.f.s0.l.length : Int), Int.tmod ((Int.tmod p.x (5 : Int)) + (5 : Int)) (5 : Int), (.slice none 0 0), []⟩].map encT) [[.int 0 (.ofNat 0), .sint 0 (p.f.s0.l.length : Int), .sint 0 (Int.tmod ((Int.tmod p.x (5 : Int)) + (5 : Int)) (5 : Int)), .nilS]] from ⟨⟨.inr (.inl ⟨_, _, rfl, rfl⟩), ⟨.inl rfl, ⟨.inl rfl, ⟨.inr (.inr ⟨_, _, _, by decide, rfl, rfl⟩), trivial⟩⟩⟩⟩, trivial⟩) ?_
  refine mustP (by simp [limP] ; omega) ?_
  exact fin_step5 hK ⟨({ p.f with fly := p.f.fly ++ [⟨(0 : Int), (p.f.s0.l.length : Int), Int.tmod ((Int.tmod p.x (5 : Int)) + (5 : Int)) (5 : Int), (.slice none 0 0), []⟩] } : F5)⟩ (by dsimp only [po_step5] <;> (refine ⟨?_, by omega, by omega⟩ ; first | (exfalso ; omega) | exact ⟨tr_len (j := 0) hinv (by omega) rfl (by omega) rfl, Frz.refl _⟩ | exact ⟨tr_len (j := 1) hinv (by omega) rfl (by omega) rfl, Frz.refl _⟩ | exact ⟨tr_len (j := 2) hinv (by omega) rfl (by omega) rfl, Frz.refl _⟩ | exact ⟨tr_len (j := 3) hinv (by omega) rfl (by omega) rfl, Frz.refl _⟩ | exact ⟨tr_len (j := 4) hinv (by omega) rfl (by omega) rfl, Frz.refl _⟩))
  refine ifP (fun hc11 => ?_) (fun hc11 => ?_)
  refine mustP (rfl) ?_
  refine mustP (rfl) ?_
  refine mustP (rfl) ?_
  refine exB_mk [⟨(0 : Int), (p.f.s1.l.length : Int), Int.tmod ((Int.tmod p.x (5 : Int)) + (5 : Int)) (5 : Int), (.slice none 0 0), []⟩] ?_
  refine mustP (show rowsR ([⟨(0 : Int), (p.f.s1.l.length : Int), Int.tmod ((Int.tmod p.x (5 : Int)) + (5 : Int)) (5 : Int), (.slice none 0 0), []⟩].map encT) [[.int 0 (.ofNat 0), .sint 0 (p.f.s1.l.length : Int), .sint 0 (Int.tmod ((Int.tmod p.x (5 : Int)) + (5 : Int)) (5 : Int)), .nilS]] from ⟨⟨.inr (.inl ⟨_, _, rfl, rfl⟩), ⟨.inl rfl, ⟨.inl rfl, ⟨.inr (.inr ⟨_, _, _, by decide, rfl, rfl⟩), trivial⟩⟩⟩⟩, trivial⟩) ?_
  refine mustP (by simp [limP] ; omega) ?_
  exact fin_step5 hK ⟨({ p.f with fly := p.f.fly ++ [⟨(0 : Int), (p.f.s1.l.length : Int), Int.tmod ((Int.tmod p.x (5 : Int)) + (5 : Int)) (5 : Int), (.slice none 0 0), []⟩] } : F5)⟩ (by dsimp only [po_step5] <;> (refine ⟨?_, by omega, by omega⟩ ; first | (exfalso ; omega) | exact ⟨tr_len (j := 0) hinv (by omega) rfl (by omega) rfl, Frz.refl _⟩ | exact ⟨tr_len (j := 1) hinv (by omega) rfl (by omega) rfl, Frz.refl _⟩ | exact ⟨tr_len (j := 2) hinv (by omega) rfl (by omega) rfl, Frz.refl _⟩ | exact ⟨tr_len (j := 3) hinv (by omega) rfl (by omega) rfl, Frz.refl _⟩ | exact ⟨tr_len (j := 4) hinv (by omega) rfl (by omega) rfl, Frz.refl _⟩))
  refine ifP (fun hc12 => ?_) (fun hc12 => ?_)
  refine mustP (rfl) ?_
  refine mustP (rfl) ?_
  refine mustP (rfl) ?_
  refine exB_mk [⟨(0 : Int), (p.f.s2.l.length : Int), Int.tmod ((Int.tmod p.x (5 : Int)) + (5 : Int)) (5 : Int), (.slice none 0 0), []⟩] ?_
  refine mustP (show rowsR ([⟨(0 : Int), (p.f.s2.l.length : Int), Int.tmod ((Int.tmod p.x (5 : Int)) + (5 : Int)) (5 : Int), (.slice none 0 0), []⟩].map encT) [[.int 0 (.ofNat 0), .sint 0 (p.f.s2.l.length : Int), .sint 0 (Int.tmod ((Int.tmod p.x (5 : Int)) + (5 : Int)) (5 : Int)), .nilS]] from ⟨⟨.inr (.inl ⟨_, _, rfl, rfl⟩), ⟨.inl rfl, ⟨.inl rfl, ⟨.inr (.inr ⟨_, _, _, by decide, rfl, rfl⟩), trivial⟩⟩⟩⟩, trivial⟩) ?_
  refine mustP (by simp [limP] ; omega) ?_
  exact fin_step5 hK ⟨({ p.f with fly := p.f.fly ++ [⟨(0 : Int), (p.f.s2.l.length : Int), Int.tmod ((Int.tmod p.x (5 : Int)) + (5 : Int)) (5 : Int), (.slice none 0 0), []⟩] } : F5)⟩ (by dsimp only [po_step5] <;> (refine ⟨?_, by omega, by omega⟩ ; first | (exfalso ; omega) | exact ⟨tr_len (j := 0) hinv (by omega) rfl (by omega) rfl, Frz.refl _⟩ | exact ⟨tr_len (j := 1) hinv (by omega) rfl (by omega) rfl, Frz.refl _⟩ | exact ⟨tr_len (j := 2) hinv (by omega) rfl (by omega) rfl, Frz.refl _⟩ | exact ⟨tr_len (j := 3) hinv (by omega) rfl (by omega) rfl, Frz.refl _⟩ | exact ⟨tr_len (j := 4) hinv (by omega) rfl (by omega) rfl, Frz.refl _⟩))
  refine ifP (fun hc13 => ?_) (fun hc13 => ?_)
  refine mustP (rfl) ?_
  refine mustP (rfl) ?_
  refine mustP (rfl) ?_
  refine exB_mk [⟨(0 : Int), (p.f.s3.l.length : Int), Int.tmod ((Int.tmod p.x (5 : Int)) + (5 : Int)) (5 : Int), (.slice none 0 0), []⟩] ?_
  refine mustP (show rowsR ([⟨(0 : Int), (p.f.s3.l.length : Int), Int.tmod ((Int.tmod p.x (5 : Int)) + (5 : Int)) (5 : Int), (.slice none 0 0), []⟩].map encT) [[.int 0 (.ofNat 0), .sint 0 (p.f.s3.l.length : Int), .sint 0 (Int.tmod ((Int.tmod p.x (5 : Int)) + (5 : Int)) (5 : Int)), .nilS]] from ⟨⟨.inr (.inl ⟨_, _, rfl, rfl⟩), ⟨.inl rfl, ⟨.inl rfl, ⟨.inr (.inr ⟨_, _, _, by decide, rfl, rfl⟩), trivial⟩⟩⟩⟩, trivial⟩) ?_
  refine mustP (by simp [limP] ; omega) ?_
  exact fin_step5 hK ⟨({ p.f with fly := p.f.fly ++ [⟨(0 : Int), (p.f.s3.l.length : Int), Int.tmod ((Int.tmod p.x (5 : Int)) + (5 : Int)) (5 : Int), (.slice none 0 0), []⟩] } : F5)⟩ (by dsimp only [po_step5] <;> (refine ⟨?_, by omega, by omega⟩ ; first | (exfalso ; omega) | exact ⟨tr_len (j := 0) hinv (by omega) rfl (by omega) rfl, Frz.refl _⟩ | exact ⟨tr_len (j := 1) hinv (by omega) rfl (by omega) rfl, Frz.refl _⟩ | exact ⟨tr_len (j := 2) hinv (by omega) rfl (by omega) rfl, Frz.refl _⟩ | exact ⟨tr_len (j := 3) hinv (by omega) rfl (by omega) rfl, Frz.refl _⟩ | exact ⟨tr_len (j := 4) hinv (by omega) rfl (by omega) rfl, Frz.refl _⟩))
  refine ifP (fun hc14 => ?_) (fun hc14 => ?_)
  refine mustP (rfl) ?_
  refine mustP (rfl) ?_
  refine mustP (rfl) ?_
  refine exB_mk [⟨(0 : Int), (p.f.s4.l.length : Int), Int.tmod ((Int.tmod p.x (5 : Int)) + (5 : Int)) (5 : Int), (.slice none 0 0), []⟩] ?_
  refine mustP (show rowsR ([⟨(0 : Int), (p.f.s4.l.length : Int), Int.tmod ((Int.tmod p.x (5 : Int)) + (5 : Int)) (5 : Int), (.slice none 0 0), []⟩].map encT) [[.int 0 (.ofNat 0), .sint 0 (p.f.s4.l.length : Int), .sint 0 (Int.tmod ((Int.tmod p.x (5 : Int)) + (5 : Int)) (5 : Int)), .nilS]] from ⟨⟨.inr (.inl ⟨_, _, rfl, rfl⟩), ⟨.inl rfl, ⟨.inl rfl, ⟨.inr (.inr ⟨_, _, _, by decide, rfl, rfl⟩), trivial⟩⟩⟩⟩, trivial⟩) ?_
  refine mustP (by simp [limP] ; omega) ?_
  exact fin_step5 hK ⟨({ p.f with fly := p.f.fly ++ [⟨(0 : Int), (p.f.s4.l.length : Int), Int.tmod ((Int.tmod p.x (5 : Int)) + (5 : Int)) (5 : Int), (.slice none 0 0), []⟩] } : F5)⟩ (by dsimp only [po_step5] <;> (refine ⟨?_, by omega, by omega⟩ ; first | (exfalso ; omega) | exact ⟨tr_len (j := 0) hinv (by omega) rfl (by omega) rfl, Frz.refl _⟩ | exact ⟨tr_len (j := 1) hinv (by omega) rfl (by omega) rfl, Frz.refl _⟩ | exact ⟨tr_len (j := 2) hinv (by omega) rfl (by omega) rfl, Frz.refl _⟩ | exact ⟨tr_len (j := 3) hinv (by omega) rfl (by omega) rfl, Frz.refl _⟩ | exact ⟨tr_len (j := 4) hinv (by omega) rfl (by omega) rfl, Frz.refl _⟩))
  refine mustP (by omega) ?_
  rfl
  refine callPR (⟨p.f, p.k, p.x, p.nn, p.i, Int.tmod ((Int.tmod p.x (5 : Int)) + (5 : Int)) (5 : Int), (p.f.fly.length : Int)⟩ : A_rest5) rfl (by (try dsimp only [pre_rest5]) ; exact ⟨hinv, by omega, by omega, by omega, by omega, by omega⟩) fun r3 hi15 => ?_
  dsimp only [po_rest5] at hi15
  exact fin_step5 hK ⟨r3.f⟩ (by dsimp only [po_step5] <;> (refine ⟨?_, by omega, by omega⟩ ; first | (exfalso ; omega) | exact hi15.1))
  refine callPR (⟨p.f, p.k, p.x, p.nn, p.i, Int.tmod ((Int.tmod p.x (5 : Int)) + (5 : Int)) (5 : Int), (p.f.fly.length : Int)⟩ : A_rest5) rfl (by (try dsimp only [pre_rest5]) ; exact ⟨hinv, by omega, by omega, by omega, by omega, by omega⟩) fun r4 hi16 => ?_
  dsimp only [po_rest5] at hi16
  exact fin_step5 hK ⟨r4.f⟩ (by dsimp only [po_step5] <;> (refine ⟨?_, by omega, by omega⟩ ; first | (exfalso ; omega) | exact hi16.1))
  refine callPR (⟨p.f, p.k, p.x, p.nn, p.i, Int.tmod ((Int.tmod p.x (5 : Int)) + (5 : Int)) (5 : Int), (p.f.fly.length : Int)⟩ : A_rest5) rfl (by (try dsimp only [pre_rest5]) ; exact ⟨hinv, by omega, by omega, by omega, by omega, by omega⟩) fun r5 hi17 => ?_
  dsimp only [po_rest5] at hi17
  exact fin_step5 hK ⟨r5.f⟩ (by dsimp only [po_step5] <;> (refine ⟨?_, by omega, by omega⟩ ; first | (exfalso ; omega) | exact hi17.1))
  refine ifP (fun hc18 => ?_) (fun hc18 => ?_)
  refine ifP (fun hc19 => ?_) (fun hc19 => ?_)
  refine ifP (fun hc20 => ?_) (fun hc20 => ?_)
  refine ifP (fun hc21 => ?_) (fun hc21 => ?_)
  refine mustP (rfl) ?_
  refine mustP (rfl) ?_
  refine mustP (rfl) ?_
  refine exB_mk [⟨(0 : Int), (p.f.s0.l.length : Int), Int.tmod ((Int.tmod p.x (5 : Int)) + (5 : Int)) (5 : Int), (.slice none 0 0), []⟩] ?_
  refine mustP (show rowsR ([⟨(0 : Int), (p.f.s0.l.length : Int), Int.tmod ((Int.tmod p.x (5 : Int)) + (5 : Int)) (5 : Int), (.slice none 0 0), []⟩].map encT) [[.int 0 (.ofNat 0), .sint 0 (p.f.s0.l.length : Int), .sint 0 (Int.tmod ((Int.tmod p.x (5 : Int)) + (5 : Int)) (5 : Int)), .nilS]] from ⟨⟨.inr (.inl ⟨_, _, rfl, rfl⟩), ⟨.inl rfl, ⟨.inl rfl, ⟨.inr (.inr ⟨_, _, _, by decide, rfl, rfl⟩), trivial⟩⟩⟩⟩, trivial⟩) ?_
  refine mustP (by simp [limP] ; omega) ?_
  exact fin_step5 hK ⟨({ p.f with fly := p.f.fly ++ [⟨(0 : Int), (p.f.s0.l.length : Int), Int.tmod ((Int.tmod p.x (5 : Int)) + (5 : Int)) (5 : Int), (.slice none 0 0), []⟩] } : F5)⟩ (by dsimp only [po_step5] <;> (refine ⟨?_, by omega, by omega⟩ ; first | (exfalso ; omega) | exact ⟨tr_len (j := 0) hinv (by omega) rfl (by omega) rfl, Frz.refl _⟩ | exact ⟨tr_len (j := 1) hinv (by omega) rfl (by omega) rfl, Frz.refl _⟩ | exact ⟨tr_len (j := 2) hinv (by omega) rfl (by omega) rfl, Frz.refl _⟩ | exact ⟨tr_len (j := 3) hinv (by omega) rfl (by omega) rfl, Frz.refl _⟩ | exact ⟨tr_len (j := 4) hinv (by omega) rfl (by omega) rfl, Frz.refl _⟩))
  refine ifP (fun hc22 => ?_) (fun hc22 => ?_)
  refine mustP (rfl) ?_
  refine mustP (rfl) ?_
  refine mustP (rfl) ?_
  refine exB_mk [⟨(0 : Int), (p.f.s1.l.length : Int), Int.tmod ((Int.tmod p.x (5 : Int)) + (5 : Int)) (5 : Int), (.slice none 0 0), []⟩] ?_
  refine mustP (show rowsR ([⟨(0 : Int), (p.f.s1.l.length : Int), Int.tmod ((Int.tmod p.x (5 : Int)) + (5 : Int)) (5 : Int), (.slice none 0 0), []⟩].map encT) [[.int 0 (.ofNat 0), .sint 0 (p.f.s1.l.length : Int), .sint 0 (Int.tmod ((Int.tmod p.x (5 : Int)) + (5 : Int)) (5 : Int)), .nilS]] from ⟨⟨.inr (.inl ⟨_, _, rfl, rfl⟩), ⟨.inl rfl, ⟨.inl rfl, ⟨.inr (.inr ⟨_, _, _, by decide, rfl, rfl⟩), trivial⟩⟩⟩⟩, trivial⟩) ?_
  refine mustP (by simp [limP] ; omega) ?_
  exact fin_step5 hK ⟨({ p.f with fly := p.f.fly ++ [⟨(0 : Int), (p.f.s1.l.length : Int), Int.tmod ((Int.tmod p.x (5 : Int)) + (5 : Int)) (5 : Int), (.slice none 0 0), []⟩] } : F5)⟩ (by dsimp only [po_step5] <;> (refine ⟨?_, by omega, by omega⟩ ; first | (exfalso ; omega) | exact ⟨tr_len (j := 0) hinv (by omega) rfl (by omega) rfl, Frz.refl _⟩ | exact ⟨tr_len (j := 1) hinv (by omega) rfl (by omega) rfl, Frz.refl _⟩ | exact ⟨tr_len (j := 2) hinv (by omega) rfl (by omega) rfl, Frz.refl _⟩ | exact ⟨tr_len (j := 3) hinv (by omega) rfl (by omega) rfl, Frz.refl _⟩ | exact ⟨tr_len (j := 4) hinv (by omega) rfl (by omega) rfl, Frz.refl _⟩))
  refine ifP (fun hc23 => ?_) (fun hc23 => ?_)
  refine mustP (rfl) ?_
  refine mustP (rfl) ?_
  refine mustP (rfl) ?_
  refine exB_mk [⟨(0 : Int), (p.f.s2.l.length : Int), Int.tmod ((Int.tmod p.x (5 : Int)) + (5 : Int)) (5 : Int), (.slice none 0 0), []⟩] ?_
  refine mustP (show rowsR ([⟨(0 : Int), (p.f.s2.l.length : Int), Int.tmod ((Int.tmod p.x (5 : Int)) + (5 : Int)) (5 : Int), (.slice none 0 0), []⟩].map encT) [[.int 0 (.ofNat 0), .sint 0 (p.f.s2.l.length : Int), .sint 0 (Int.tmod ((Int.tmod p.x (5 : Int)) + (5 : Int)) (5 : Int)), .nilS]] from ⟨⟨.inr (.inl ⟨_, _, rfl, rfl⟩), ⟨.inl rfl, ⟨.inl rfl, ⟨.inr (.inr ⟨_, _, _, by decide, rfl, rfl⟩), trivial⟩⟩⟩⟩, trivial⟩) ?_
  refine mustP (by simp [limP] ; omega) ?_
  exact fin_step5 hK ⟨({ p.f with fly := p.f.fly ++ [⟨(0 : Int), (p.f.s2.l.length : Int), Int.tmod ((Int.tmod p.x (5 : Int)) + (5 : Int)) (5 : Int), (.slice none 0 0), []⟩] } : F5)⟩ (by dsimp only [po_step5] <;> (refine ⟨?_, by omega, by omega⟩ ; first | (exfalso ; omega) | exact ⟨tr_len (j := 0) hinv (by omega) rfl (by omega) rfl, Frz.refl _⟩ | exact ⟨tr_len (j := 1) hinv (by omega) rfl (by omega) rfl, Frz.refl _⟩ | exact ⟨tr_len (j := 2) hinv (by omega) rfl (by omega) rfl, Frz.refl _⟩ | exact ⟨tr_len (j := 3) hinv (by omega) rfl (by omega) rfl, Frz.refl _⟩ | exact ⟨tr_len (j := 4) hinv (by omega) rfl (by omega) rfl, Frz.refl _⟩))
  refine ifP (fun hc24 => ?_) (fun hc24 => ?_)
  refine mustP (rfl) ?_
  refine mustP (rfl) ?_
  refine mustP (rfl) ?_
  refine exB_mk [⟨(0 : Int), (p.f.s3.l.length : Int), Int.tmod ((Int.tmod p.x (5 : Int)) + (5 : Int)) (5 : Int), (.slice none 0 0), []⟩] ?_
  refine mustP (show rowsR ([⟨(0 : Int), (p.f.s3.l.length : Int), Int.tmod ((Int.tmod p.x (5 : Int)) + (5 : Int)) (5 : Int), (.slice none 0 0), []⟩].map encT) [[.int 0 (.ofNat 0), .sint 0 (p.f.s3.l.length : Int), .sint 0 (Int.tmod ((Int.tmod p.x (5 : Int)) + (5 : Int)) (5 : Int)), .nilS]] from ⟨⟨.inr (.inl ⟨_, _, rfl, rfl⟩), ⟨.inl rfl, ⟨.inl rfl, ⟨.inr (.inr ⟨_, _, _, by decide, rfl, rfl⟩), trivial⟩⟩⟩⟩, trivial⟩) ?_
  refine mustP (by simp [limP] ; omega) ?_
  exact fin_step5 hK ⟨({ p.f with fly := p.f.fly ++ [⟨(0 : Int), (p.f.s3.l.length : Int), Int.tmod ((Int.tmod p.x (5 : Int)) + (5 : Int)) (5 : Int), (.slice none 0 0), []⟩] } : F5)⟩ (by dsimp only [po_step5] <;> (refine ⟨?_, by omega, by omega⟩ ; first | (exfalso ; omega) | exact ⟨tr_len (j := 0) hinv (by omega) rfl (by omega) rfl, Frz.refl _⟩ | exact ⟨tr_len (j := 1) hinv (by omega) rfl (by omega) rfl, Frz.refl _⟩ | exact ⟨tr_len (j := 2) hinv (by omega) rfl (by omega) rfl, Frz.refl _⟩ | exact ⟨tr_len (j := 3) hinv (by omega) rfl (by omega) rfl, Frz.refl _⟩ | exact ⟨tr_len (j := 4) hinv (by omega) rfl (by omega) rfl, Frz.refl _⟩))
  refine ifP (fun hc25 => ?_) (fun hc25 => ?_)
  refine mustP (rfl) ?_
  refine mustP (rfl) ?_
  refine mustP (rfl) ?_
  refine exB_mk [⟨(0 : Int), (p.f.s4.l.length : Int), Int.tmod ((Int.tmod p.x (5 : Int)) + (5 : Int)) (5 : Int), (.slice none 0 0), []⟩] ?_
  refine mustP (show rowsR ([⟨(0 : Int), (p.f.s4.l.length : Int), Int.tmod ((Int.tmod p.x (5 : Int)) + (5 : Int)) (5 : Int), (.slice none 0 0), []⟩].map encT) [[.int 0 (.ofNat 0), .sint 0 (p.f.s4.l.length : Int), .sint 0 (Int.tmod ((Int.tmod p.x (5 : Int)) + (5 : Int)) (5 : Int)), .nilS]] from ⟨⟨.inr (.inl ⟨_, _, rfl, rfl⟩), ⟨.inl rfl, ⟨.inl rfl, ⟨.inr (.inr ⟨_, _, _, by decide, rfl, rfl⟩), trivial⟩⟩⟩⟩, trivial⟩) ?_
  refine mustP (by simp [limP] ; omega) ?_
  exact fin_step5 hK ⟨({ p.f with fly := p.f.fly ++ [⟨(0 : Int), (p.f.s4.l.length : Int), Int.tmod ((Int.tmod p.x (5 : Int)) + (5 : Int)) (5 : Int), (.slice none 0 0), []⟩] } : F5)⟩ (by dsimp only [po_step5] <;> (refine ⟨?_, by omega, by omega⟩ ; first | (exfalso ; omega) | exact ⟨tr_len (j := 0) hinv (by omega) rfl (by omega) rfl, Frz.refl _⟩ | exact ⟨tr_len (j := 1) hinv (by omega) rfl (by omega) rfl, Frz.refl _⟩ | exact ⟨tr_len (j := 2) hinv (by omega) rfl (by omega) rfl, Frz.refl _⟩ | exact ⟨tr_len (j := 3) hinv (by omega) rfl (by omega) rfl, Frz.refl _⟩ | exact ⟨tr_len (j := 4) hinv (by omega) rfl (by omega) rfl, Frz.refl _⟩))
  refine mustP (by omega) ?_
  rfl
  refine callPR (⟨p.f, p.k, p.x, p.nn, p.i, Int.tmod ((Int.tmod p.x (5 : Int)) + (5 : Int)) (5 : Int), (p.f.fly.length : Int)⟩ : A_rest5) rfl (by (try dsimp only [pre_rest5]) ; exact ⟨hinv, by omega, by omega, by omega, by omega, by omega⟩) fun r6 hi26 => ?_
  dsimp only [po_rest5] at hi26
  exact fin_step5 hK ⟨r6.f⟩ (by dsimp only [po_step5] <;> (refine ⟨?_, by omega, by omega⟩ ; first | (exfalso ; omega) | exact hi26.1))
  refine callPR (⟨p.f, p.k, p.x, p.nn, p.i, Int.tmod ((Int.tmod p.x (5 : Int)) + (5 : Int)) (5 : Int), (p.f.fly.length : Int)⟩ : A_rest5) rfl (by (try dsimp only [pre_rest5]) ; exact ⟨hinv, by omega, by omega, by omega, by omega, by omega⟩) fun r7 hi27 => ?_
  dsimp only [po_rest5] at hi27
  exact fin_step5 hK ⟨r7.f⟩ (by dsimp only [po_step5] <;> (refine ⟨?_, by omega, by omega⟩ ; first | (exfalso ; omega) | exact hi27.1))
  refine callPR (⟨p.f, p.k, p.x, p.nn, p.i, Int.tmod ((Int.tmod p.x (5 : Int)) + (5 : Int)) (5 : Int), (p.f.fly.length : Int)⟩ : A_rest5) rfl (by (try dsimp only [pre_rest5]) ; exact ⟨hinv, by omega, by omega, by omega, by omega, by omega⟩) fun r8 hi28 => ?_
  dsimp only [po_rest5] at hi28
  exact fin_step5 hK ⟨r8.f⟩ (by dsimp only [po_step5] <;> (refine ⟨?_, by omega, by omega⟩ ; first | (exfalso ; omega) | exact hi28.1))
  refine ifP (fun hc29 => ?_) (fun hc29 => ?_)
  refine ifP (fun hc30 => ?_) (fun hc30 => ?_)
  refine ifP (fun hc31 => ?_) (fun hc31 => ?_)
  refine ifP (fun hc32 => ?_) (fun hc32 => ?_)
  refine mustP (rfl) ?_
  refine mustP (rfl) ?_
  refine mustP (rfl) ?_
  refine exB_mk [⟨(0 : Int), (p.f.s0.l.length : Int), Int.tmod ((Int.tmod p.x (5 : Int)) + (5 : Int)) (5 : Int), (.slice none 0 0), []⟩] ?_
  refine mustP (show rowsR ([⟨(0 : Int), (p.f.s0.l.length : Int), Int.tmod ((Int.tmod p.x (5 : Int)) + (5 : Int)) (5 : Int), (.slice none 0 0), []⟩].map encT) [[.int 0 (.ofNat 0), .sint 0 (p.f.s0.l.length : Int), .sint 0 (Int.tmod ((Int.tmod p.x (5 : Int)) + (5 : Int)) (5 : Int)), .nilS]] from ⟨⟨.inr (.inl ⟨_, _, rfl, rfl⟩), ⟨.inl rfl, ⟨.inl rfl, ⟨.inr (.inr ⟨_, _, _, by decide, rfl, rfl⟩), trivial⟩⟩⟩⟩, trivial⟩) ?_
  refine mustP (by simp [limP] ; omega) ?_
  exact fin_step5 hK ⟨({ p.f with fly := p.f.fly ++ [⟨(0 : Int), (p.f.s0.l.length : Int), Int.tmod ((Int.tmod p.x (5 : Int)) + (5 : Int)) (5 : Int), (.slice none 0 0), []⟩] } : F5)⟩ (by dsimp only [po_step5] <;> (refine ⟨?_, by omega, by omega⟩ ; first | (exfalso ; omega) | exact ⟨tr_len (j := 0) hinv (by omega) rfl (by omega) rfl, Frz.refl _⟩ | exact ⟨tr_len (j := 1) hinv (by omega) rfl (by omega) rfl, Frz.refl _⟩ | exact ⟨tr_len (j := 2) hinv (by omega) rfl (by omega) rfl, Frz.refl _⟩ | exact ⟨tr_len (j := 3) hinv (by omega) rfl (by omega) rfl, Frz.refl _⟩ | exact ⟨tr_len (j := 4) hinv (by omega) rfl (by omega) rfl, Frz.refl _⟩))
  refine ifP (fun hc33 => ?_) (fun hc33 => ?_)
  refine mustP (rfl) ?_
  refine mustP (rfl) ?_
  refine mustP (rfl) ?_
  refine exB_mk [⟨(0 : Int), (p.f.s1.l.length : Int), Int.tmod ((Int.tmod p.x (5 : Int)) + (5 : Int)) (5 : Int), (.slice none 0 0), []⟩] ?_
  refine mustP (show rowsR ([⟨(0 : Int), (p.f.s1.l.length : Int), Int.tmod ((Int.tmod p.x (5 : Int)) + (5 : Int)) (5 : Int), (.slice none 0 0), []⟩].map encT) [[.int 0 (.ofNat 0), .sint 0 (p.f.s1.l.length : Int), .sint 0 (Int.tmod ((Int.tmod p.x (5 : Int)) + (5 : Int)) (5 : Int)), .nilS]] from ⟨⟨.inr (.inl ⟨_, _, rfl, rfl⟩), ⟨.inl rfl, ⟨.inl rfl, ⟨.inr (.inr ⟨_, _, _, by decide, rfl, rfl⟩), trivial⟩⟩⟩⟩, trivial⟩) ?_
  refine mustP (by simp [limP] ; omega) ?_
  exact fin_step5 hK ⟨({ p.f with fly := p.f.fly ++ [⟨(0 : Int), (p.f.s1.l.length : Int), Int.tmod ((Int.tmod p.x (5 : Int)) + (5 : Int)) (5 : Int), (.slice none 0 0), []⟩] } : F5)⟩ (by dsimp only [po_step5] <;> (refine ⟨?_, by omega, by omega⟩ ; first | (exfalso ; omega) | exact ⟨tr_len (j := 0) hinv (by omega) rfl (by omega) rfl, Frz.refl _⟩ | exact ⟨tr_len (j := 1) hinv (by omega) rfl (by omega) rfl, Frz.refl _⟩ | exact ⟨tr_len (j := 2) hinv (by omega) rfl (by omega) rfl, Frz.refl _⟩ | exact ⟨tr_len (j := 3) hinv (by omega) rfl (by omega) rfl, Frz.refl _⟩ | exact ⟨tr_len (j := 4) hinv (by omega) rfl (by omega) rfl, Frz.refl _⟩))
  refine ifP (fun hc34 => ?_) (fun hc34 => ?_)
  refine mustP (rfl) ?_
  refine mustP (rfl) ?_
  refine mustP (rfl) ?_
  refine exB_mk [⟨(0 : Int), (p.f.s2.l.length : Int), Int.tmod ((Int.tmod p.x (5 : Int)) + (5 : Int)) (5 : Int), (.slice none 0 0), []⟩] ?_
  refine mustP (show rowsR ([⟨(0 : Int), (p.f.s2.l.length : Int), Int.tmod ((Int.tmod p.x (5 : Int)) + (5 : Int)) (5 : Int), (.slice none 0 0), []⟩].map encT) [[.int 0 (.ofNat 0), .sint 0 (p.f.s2.l.length : Int), .sint 0 (Int.tmod ((Int.tmod p.x (5 : Int)) + (5 : Int)) (5 : Int)), .nilS]] from ⟨⟨.inr (.inl ⟨_, _, rfl, rfl⟩), ⟨.inl rfl, ⟨.inl rfl, ⟨.inr (.inr ⟨_, _, _, by decide, rfl, rfl⟩), trivial⟩⟩⟩⟩, trivial⟩) ?_
  refine mustP (by simp [limP] ; omega) ?_
  exact fin_step5 hK ⟨({ p.f with fly := p.f.fly ++ [⟨(0 : Int), (p.f.s2.l.length : Int), Int.tmod ((Int.tmod p.x (5 : Int)) + (5 : Int)) (5 : Int), (.slice none 0 0), []⟩] } : F5)⟩ (by dsimp only [po_step5] <;> (refine ⟨?_, by omega, by omega⟩ ; first | (exfalso ; omega) | exact ⟨tr_len (j := 0) hinv (by omega) rfl (by omega) rfl, Frz.refl _⟩ | exact ⟨tr_len (j := 1) hinv (by omega) rfl (by omega) rfl, Frz.refl _⟩ | exact ⟨tr_len (j := 2) hinv (by omega) rfl (by omega) rfl, Frz.refl _⟩ | exact ⟨tr_len (j := 3) hinv (by omega) rfl (by omega) rfl, Frz.refl _⟩ | exact ⟨tr_len (j := 4) hinv (by omega) rfl (by omega) rfl, Frz.refl _⟩))
  refine ifP (fun hc35 => ?_) (fun hc35 => ?_)
  refine mustP (rfl) ?_
  refine mustP (rfl) ?_
  refine mustP (rfl) ?_
  refine exB_mk [⟨(0 : Int), (p.f.s3.l.length : Int), Int.tmod ((Int.tmod p.x (5 : Int)) + (5 : Int)) (5 : Int), (.slice none 0 0), []⟩] ?_
  refine mustP (show rowsR ([⟨(0 : Int), (p.f.s3.l.length : Int), Int.tmod ((Int.tmod p.x (5 : Int)) + (5 : Int)) (5 : Int), (.slice none 0 0), []⟩].map encT) [[.int 0 (.ofNat 0), .sint 0 (p.f.s3.l.length : Int), .sint 0 (Int.tmod ((Int.tmod p.x (5 : Int)) + (5 : Int)) (5 : Int)), .nilS]] from ⟨⟨.inr (.inl ⟨_, _, rfl, rfl⟩), ⟨.inl rfl, ⟨.inl rfl, ⟨.inr (.inr ⟨_, _, _, by decide, rfl, rfl⟩), trivial⟩⟩⟩⟩, trivial⟩) ?_
  refine mustP (by simp [limP] ; omega) ?_
  exact fin_step5 hK ⟨({ p.f with fly := p.f.fly ++ [⟨(0 : Int), (p.f.s3.l.length : Int), Int.tmod ((Int.tmod p.x (5 : Int)) + (5 : Int)) (5 : Int), (.slice none 0 0), []⟩] } : F5)⟩ (by dsimp only [po_step5] <;> (refine ⟨?_, by omega, by omega⟩ ; first | (exfalso ; omega) | exact ⟨tr_len (j := 0) hinv (by omega) rfl (by omega) rfl, Frz.refl _⟩ | exact ⟨tr_len (j := 1) hinv (by omega) rfl (by omega) rfl, Frz.refl _⟩ | exact ⟨tr_len (j := 2) hinv (by omega) rfl (by omega) rfl, Frz.refl _⟩ | exact ⟨tr_len (j := 3) hinv (by omega) rfl (by omega) rfl, Frz.refl _⟩ | exact ⟨tr_len (j := 4) hinv (by omega) rfl (by omega) rfl, Frz.refl _⟩))
  refine ifP (fun hc36 => ?_) (fun hc36 => ?_)
  refine mustP (rfl) ?_
  refine mustP (rfl) ?_
  refine mustP (rfl) ?_
  refine exB_mk [⟨(0 : Int), (p.f.s4.l.length : Int), Int.tmod ((Int.tmod p.x (5 : Int)) + (5 : Int)) (5 : Int), (.slice none 0 0), []⟩] ?_
  refine mustP (show rowsR ([⟨(0 : Int), (p.f.s4.l.length : Int), Int.tmod ((Int.tmod p.x (5 : Int)) + (5 : Int)) (5 : Int), (.slice none 0 0), []⟩].map encT) [[.int 0 (.ofNat 0), .sint 0 (p.f.s4.l.length : Int), .sint 0 (Int.tmod ((Int.tmod p.x (5 : Int)) + (5 : Int)) (5 : Int)), .nilS]] from ⟨⟨.inr (.inl ⟨_, _, rfl, rfl⟩), ⟨.inl rfl, ⟨.inl rfl, ⟨.inr (.inr ⟨_, _, _, by decide, rfl, rfl⟩), trivial⟩⟩⟩⟩, trivial⟩) ?_
  refine mustP (by simp [limP] ; omega) ?_
  exact fin_step5 hK ⟨({ p.f with fly := p.f.fly ++ [⟨(0 : Int), (p.f.s4.l.length : Int), Int.tmod ((Int.tmod p.x (5 : Int)) + (5 : Int)) (5 : Int), (.slice none 0 0), []⟩] } : F5)⟩ (by dsimp only [po_step5] <;> (refine ⟨?_, by omega, by omega⟩ ; first | (exfalso ; omega) | exact ⟨tr_len (j := 0) hinv (by omega) rfl (by omega) rfl, Frz.refl _⟩ | exact ⟨tr_len (j := 1) hinv (by omega) rfl (by omega) rfl, Frz.refl _⟩ | exact ⟨tr_len (j := 2) hinv (by omega) rfl (by omega) rfl, Frz.refl _⟩ | exact ⟨tr_len (j := 3) hinv (by omega) rfl (by omega) rfl, Frz.refl _⟩ | exact ⟨tr_len (j := 4) hinv (by omega) rfl (by omega) rfl, Frz.refl _⟩))
  refine mustP (by omega) ?_
  rfl
  refine callPR (⟨p.f, p.k, p.x, p.nn, p.i, Int.tmod ((Int.tmod p.x (5 : Int)) + (5 : Int)) (5 : Int), (p.f.fly.length : Int)⟩ : A_rest5) rfl (by (try dsimp only [pre_rest5]) ; exact ⟨hinv, by omega, by omega, by omega, by omega, by omega⟩) fun r9 hi37 => ?_
  dsimp only [po_rest5] at hi37
  exact fin_step5 hK ⟨r9.f⟩ (by dsimp only [po_step5] <;> (refine ⟨?_, by omega, by omega⟩ ; first | (exfalso ; omega) | exact hi37.1))
  refine callPR (⟨p.f, p.k, p.x, p.nn, p.i, Int.tmod ((Int.tmod p.x (5 : Int)) + (5 : Int)) (5 : Int), (p.f.fly.length : Int)⟩ : A_rest5) rfl (by (try dsimp only [pre_rest5]) ; exact ⟨hinv, by omega, by omega, by omega, by omega, by omega⟩) fun r10 hi38 => ?_
  dsimp only [po_rest5] at hi38
  exact fin_step5 hK ⟨r10.f⟩ (by dsimp only [po_step5] <;> (refine ⟨?_, by omega, by omega⟩ ; first | (exfalso ; omega) | exact hi38.1))
  refine callPR (⟨p.f, p.k, p.x, p.nn, p.i, Int.tmod ((Int.tmod p.x (5 : Int)) + (5 : Int)) (5 : Int), (p.f.fly.length : Int)⟩ : A_rest5) rfl (by (try dsimp only [pre_rest5]) ; exact ⟨hinv, by omega, by omega, by omega, by omega, by omega⟩) fun r11 hi39 => ?_
  dsimp only [po_rest5] at hi39
  exact fin_step5 hK ⟨r11.f⟩ (by dsimp only [po_step5] <;> (refine ⟨?_, by omega, by omega⟩ ; first | (exfalso ; omega) | exact hi39.1))
noncomputable def ec_step5 : SpecE := tstE (elB 1 5) (esOf I_step5 (spP pre_step5 out_step5)) ec_step4
theorem nc_step5 : NatE Try.prog 28 1 ec_step5 := tstE_ok (natE_said (f := 28) (k := 1) (lp := lp_step5) (lf := 600) tb_mix (cfT_ok nat_come5_ok) ft_step5_ok (by rfl) (fun b j x h => (mem_step lo_rest5 (fun h => (by cases h)) h)) fun p K h => vf_step5 p K (mustP_ok h).1 (mustP_ok h).2) nc_step4
noncomputable def nat_step5 := natC nat_come5 1 ec_step5 28 [(0, 4), (1, 15)]
theorem nat_step5_ok : NatsOk Try.prog nat_step5 := natC_ok nc_step5 nat_come5_ok
end Go.Proofs.Try

namespace Go.Proofs.Try
open Go Go.RowKit Go.Sy
open Go.Eng hiding allB
set_option maxRecDepth 1000000
set_option linter.unusedVariables false
set_option maxHeartbeats 4000000
theorem tr_init {p : Prop} {tl : List Rl} {cs : List Int} (h1 : ∀ r, r ∈ tl → r.l = [] ∧ r.com = 0) (h2 : ∀ c, c ∈ cs → c = 0) (h3 : cs.length = tl.length + 1) : FInv ⟨[], 0, p⟩ tl cs [] := by
  have hr : ∀ (j : Nat) (r : Rl), (Rl.mk [] 0 p :: tl)[j]? = some r → r.l = [] ∧ r.com = 0 := by
    intro j r h
    cases j with
    | zero => simp at h; subst h; exact ⟨rfl, rfl⟩
    | succ j => exact h1 r (List.mem_of_getElem? (by simpa using h))
  refine ⟨h3, by simp, by simp, fun j r c k1 k2 => ?_, ?_, fun t h => by simp at h⟩
  · obtain ⟨e1, e2⟩ := hr j r k1
    have e3 := h2 c (List.mem_of_getElem? k2)
    exact ⟨by simp [e1], by simp [e1], by simp [e2], by simp [e1, e2], by simp [e2], by simp [e3], by simp [e1, e3]⟩
  · have : (cs.filter fun c => decide ((0 : Int) ≤ c)) = cs := List.filter_eq_self.2 fun c hc => by simp [h2 c hc]
    show _ ≤ (cs.filter fun c => decide ((0 : Int) ≤ c)).length
    rw [this, h3]; omega
structure StepR where
  k : Int
  x : Int
  n : Int
  i : Int
def encS (x : StepR) : List PL := [.sint 0 x.k, .sint 0 x.x, .sint 0 x.n, .sint 0 x.i]
theorem var_ok {b x y : Bool} (h : (Bool.rec (motive := fun _ => Bool) x y b) = true) : (b = true ∧ y = true) ∨ (b = false ∧ x = true) := by cases b; exact .inr ⟨rfl, h⟩; exact .inl ⟨rfl, h⟩
noncomputable def andQ (a b : Bool) : Bool := Bool.rec false b a
noncomputable def argZ (us : List AV) (a c : Nat) : Nat := match nth us a with
  | some (.agg l) => match nth l c with
    | some (.int _ (.ofNat z)) => z
    | _ => 999
  | _ => 999
def ft_knows : XF := .mk 36 (.one 0) (.seq (g_ 1 [p_ 0 0 (.mv (.c (.bool false)))]) (.seq (g_ 4 [c_ 0 4 8 [i_ 3], c_ 1 5 9 [i_ 0], c_ 2 6 7 [.t 4, .t 5, .c .nilS], p_ 3 1 (m_ 6)]) (.seq (g_ 4 [p_ 0 7 (m_ 1), c_ 1 8 11 [i_ 1], c_ 2 9 10 [.t 7, .t 8], p_ 3 2 (m_ 9)]) (.seq (g_ 3 [p_ 0 10 (m_ 1), c_ 1 11 14 [.t 10], p_ 2 3 (m_ 11)]) (.seq (g_ 3 [p_ 0 12 (m_ 1), c_ 1 13 9 [i_ 2], c_ 2 14 19 [.t 12, .t 13, i_ 1]]) (.seq (g_ 22 [p_ 0 15 (m_ 2), c_ 1 16 12 [.t 15], p_ 2 17 (.bin 3 4 (.t 16) (i_ 0)), p_ 3 18 (m_ 17), pg_ 4 19 18 true (m_ 3), pg_ 5 20 18 true (.bin 3 4 (.t 19) (i_ 0)), p_ 6 21 (.pick (.t 18) (.t 20) (.c (.bool false))), p_ 7 22 (m_ 21), pg_ 8 23 22 true (m_ 1), cg_ 9 24 22 true 14 [.t 23], pg_ 10 25 22 true (.bin 3 4 (.t 24) (i_ 1)), p_ 11 26 (.pick (.t 22) (.t 25) (.c (.bool false))), p_ 12 27 (m_ 26), pg_ 13 28 27 true (m_ 1), cg_ 14 29 27 true 15 [.t 28], pg_ 15 30 27 true (.bin 3 4 (.t 29) (i_ 1)), p_ 16 31 (.pick (.t 27) (.t 30) (.c (.bool false))), p_ 17 32 (m_ 31), pg_ 18 33 32 true (m_ 1), cg_ 19 34 32 true 26 [.t 33], p_ 20 35 (.pick (.t 32) (.t 34) (.c (.bool false))), p_ 21 0 (m_ 35)]) .ret))))))
theorem ft_knows_ok : chkF Try.prog 16 ft_knows = true := by kernel_rfl
abbrev A_knows := Unit
noncomputable def I_knows (p : A_knows) : IE := ([], .leaf, 0)
noncomputable def out_knows (p : A_knows) (K : KE) : Bool := K (.bool true) .leaf 0
theorem vf_knows (p : A_knows) (K : KE) (hK : out_knows p K = true) : (funE 0 (cfT nat0) noLp 600 ft_knows (I_knows p).1 (I_knows p).2.1 (I_knows p).2.2 K) = true := by
  refine Eq.trans (b := (let z0 : Bool := (K (.bool true) .leaf 0); must (must (must (must (must (must (must (must z0 (true)) (must (must z0 (true)) (true))) (must (must (must z0 (true)) (must (must z0 (true)) (true))) (must (must (must z0 (true)) (must (must z0 (true)) (true))) (true)))) (true)) (must (must (must (must (must z0 (true)) (must (must z0 (true)) (true))) (must (must (must z0 (true)) (must (must z0 (true)) (true))) (must (must (must z0 (true)) (must (must z0 (true)) (true))) (true)))) (true)) (true))) (must (must (must (must (must (must z0 (true)) (must (must z0 (true)) (true))) (must (must (must z0 (true)) (must (must z0 (true)) (true))) (must (must (must z0 (true)) (must (must z0 (true)) (true))) (true)))) (true)) (must (must (must (must (must z0 (true)) (must (must z0 (true)) (true))) (must (must (must z0 (true)) (must (must z0 (true)) (true))) (must (must (must z0 (true)) (must (must z0 (true)) (true))) (true)))) (true)) (true))) (must (must (must (must (must (must z0 (true)) (must (must z0 (true)) (true))) (must (must (must z0 (true)) (must (must z0 (true)) (true))) (must (must (must z0 (true)) (must (must z0 (true)) (true))) (true)))) (true)) (must (must (must (must (must z0 (true)) (must (must z0 (true)) (true))) (must (must (must z0 (true)) (must (must z0 (true)) (true))) (must (must (must z0 (true)) (must (must z0 (true)) (true))) (true)))) (true)) (true))) (true)))) (must (must (must (must (must (must z0 (true)) (must (must z0 (true)) (true))) (must (must (must z0 (true)) (must (must z0 (true)) (true))) (must (must (must z0 (true)) (must (must z0 (true)) (true))) (true)))) (true)) (must (must (must (must (must z0 (true)) (must (must z0 (true)) (true))) (must (must (must z0 (true)) (must (must z0 (true)) (true))) (must (must (must z0 (true)) (must (must z0 (true)) (true))) (true)))) (true)) (true))) (must (must (must (must (must (must z0 (true)) (must (must z0 (true)) (true))) (must (must (must z0 (true)) (must (must z0 (true)) (true))) (must (must (must z0 (true)) (must (must z0 (true)) (true))) (true)))) (true)) (must (must (must (must (must z0 (true)) (must (must z0 (true)) (true))) (must (must (must z0 (true)) (must (must z0 (true)) (true))) (must (must (must z0 (true)) (must (must z0 (true)) (true))) (true)))) (true)) (true))) (must (must (must (must (must (must z0 (true)) (must (must z0 (true)) (true))) (must (must (must z0 (true)) (must (must z0 (true)) (true))) (must (must (must z0 (true)) (must (must z0 (true)) (true))) (true)))) (true)) (must (must (must (must (must z0 (true)) (must (must z0 (true)) (true))) (must (must (must z0 (true)) (must (must z0 (true)) (true))) (must (must (must z0 (true)) (must (must z0 (true)) (true))) (true)))) (true)) (true))) (true))))) (must (must (must (must (must (must z0 (true)) (must (must z0 (true)) (true))) (must (must (must z0 (true)) (must (must z0 (true)) (true))) (must (must (must z0 (true)) (must (must z0 (true)) (true))) (true)))) (true)) (must (must (must (must (must z0 (true)) (must (must z0 (true)) (true))) (must (must (must z0 (true)) (must (must z0 (true)) (true))) (must (must (must z0 (true)) (must (must z0 (true)) (true))) (true)))) (true)) (true))) (must (must (must (must (must (must z0 (true)) (must (must z0 (true)) (true))) (must (must (must z0 (true)) (must (must z0 (true)) (true))) (must (must (must z0 (true)) (must (must z0 (true)) (true))) (true)))) (true)) (must (must (must (must (must z0 (true)) (must (must z0 (true)) (true))) (must (must (must z0 (true)) (must (must z0 (true)) (true))) (must (must (must z0 (true)) (must (must z0 (true)) (true))) (true)))) (true)) (true))) (must (must (must (must (must (must z0 (true)) (must (must z0 (true)) (true))) (must (must (must z0 (true)) (must (must z0 (true)) (true))) (must (must (must z0 (true)) (must (must z0 (true)) (true))) (true)))) (true)) (must (must (must (must (must z0 (true)) (must (must z0 (true)) (true))) (must (must (must z0 (true)) (must (must z0 (true)) (true))) (must (must (must z0 (true)) (must (must z0 (true)) (true))) (true)))) (true)) (true))) (true)))))) (by kernel_rfl) ?_
  refine must_mk ?_ ?_
  refine must_mk ?_ ?_
  refine must_mk ?_ ?_
  refine must_mk ?_ ?_
  refine must_mk ?_ ?_
  refine must_mk ?_ ?_
  refine must_mk ?_ ?_
  refine must_mk ?_ ?_
  exact hK
  rfl
  refine must_mk ?_ ?_
  refine must_mk ?_ ?_
  exact hK
  rfl
  rfl
  refine must_mk ?_ ?_
  refine must_mk ?_ ?_
  refine must_mk ?_ ?_
  exact hK
  rfl
  refine must_mk ?_ ?_
  refine must_mk ?_ ?_
  exact hK
  rfl
  rfl
  refine must_mk ?_ ?_
  refine must_mk ?_ ?_
  refine must_mk ?_ ?_
  exact hK
  rfl
  refine must_mk ?_ ?_
  refine must_mk ?_ ?_
  exact hK
  rfl
  rfl
  rfl
  rfl
  refine must_mk ?_ ?_
  refine must_mk ?_ ?_
  refine must_mk ?_ ?_
  refine must_mk ?_ ?_
  refine must_mk ?_ ?_
  exact hK
  rfl
  refine must_mk ?_ ?_
  refine must_mk ?_ ?_
  exact hK
  rfl
  rfl
  refine must_mk ?_ ?_
  refine must_mk ?_ ?_
  refine must_mk ?_ ?_
  exact hK
  rfl
  refine must_mk ?_ ?_
  refine must_mk ?_ ?_
  exact hK
  rfl
  rfl
  refine must_mk ?_ ?_
  refine must_mk ?_ ?_
  refine must_mk ?_ ?_
  exact hK
  rfl
  refine must_mk ?_ ?_
  refine must_mk ?_ ?_
  exact hK
  rfl
  rfl
  rfl
  rfl
  rfl
  refine must_mk ?_ ?_
  refine must_mk ?_ ?_
  refine must_mk ?_ ?_
  refine must_mk ?_ ?_
  refine must_mk ?_ ?_
  refine must_mk ?_ ?_
  exact hK
  rfl
  refine must_mk ?_ ?_
  refine must_mk ?_ ?_
  exact hK
  rfl
  rfl
  refine must_mk ?_ ?_
  refine must_mk ?_ ?_
  refine must_mk ?_ ?_
  exact hK
  rfl
  refine must_mk ?_ ?_
  refine must_mk ?_ ?_
  exact hK
  rfl
  rfl
  refine must_mk ?_ ?_
  refine must_mk ?_ ?_
  refine must_mk ?_ ?_
  exact hK
  rfl
  refine must_mk ?_ ?_
  refine must_mk ?_ ?_
  exact hK
  rfl
  rfl
  rfl
  rfl
  refine must_mk ?_ ?_
  refine must_mk ?_ ?_
  refine must_mk ?_ ?_
  refine must_mk ?_ ?_
  refine must_mk ?_ ?_
  exact hK
  rfl
  refine must_mk ?_ ?_
  refine must_mk ?_ ?_
  exact hK
  rfl
  rfl
  refine must_mk ?_ ?_
  refine must_mk ?_ ?_
  refine must_mk ?_ ?_
  exact hK
  rfl
  refine must_mk ?_ ?_
  refine must_mk ?_ ?_
  exact hK
  rfl
  rfl
  refine must_mk ?_ ?_
  refine must_mk ?_ ?_
  refine must_mk ?_ ?_
  exact hK
  rfl
  refine must_mk ?_ ?_
  refine must_mk ?_ ?_
  exact hK
  rfl
  rfl
  rfl
  rfl
  rfl
  refine must_mk ?_ ?_
  refine must_mk ?_ ?_
  refine must_mk ?_ ?_
  refine must_mk ?_ ?_
  refine must_mk ?_ ?_
  refine must_mk ?_ ?_
  exact hK
  rfl
  refine must_mk ?_ ?_
  refine must_mk ?_ ?_
  exact hK
  rfl
  rfl
  refine must_mk ?_ ?_
  refine must_mk ?_ ?_
  refine must_mk ?_ ?_
  exact hK
  rfl
  refine must_mk ?_ ?_
  refine must_mk ?_ ?_
  exact hK
  rfl
  rfl
  refine must_mk ?_ ?_
  refine must_mk ?_ ?_
  refine must_mk ?_ ?_
  exact hK
  rfl
  refine must_mk ?_ ?_
  refine must_mk ?_ ?_
  exact hK
  rfl
  rfl
  rfl
  rfl
  refine must_mk ?_ ?_
  refine must_mk ?_ ?_
  refine must_mk ?_ ?_
  refine must_mk ?_ ?_
  refine must_mk ?_ ?_
  exact hK
  rfl
  refine must_mk ?_ ?_
  refine must_mk ?_ ?_
  exact hK
  rfl
  rfl
  refine must_mk ?_ ?_
  refine must_mk ?_ ?_
  refine must_mk ?_ ?_
  exact hK
  rfl
  refine must_mk ?_ ?_
  refine must_mk ?_ ?_
  exact hK
  rfl
  rfl
  refine must_mk ?_ ?_
  refine must_mk ?_ ?_
  refine must_mk ?_ ?_
  exact hK
  rfl
  refine must_mk ?_ ?_
  refine must_mk ?_ ?_
  exact hK
  rfl
  rfl
  rfl
  rfl
  rfl
  rfl
  refine must_mk ?_ ?_
  refine must_mk ?_ ?_
  refine must_mk ?_ ?_
  refine must_mk ?_ ?_
  refine must_mk ?_ ?_
  refine must_mk ?_ ?_
  exact hK
  rfl
  refine must_mk ?_ ?_
  refine must_mk ?_ ?_
  exact hK
  rfl
  rfl
  refine must_mk ?_ ?_
  refine must_mk ?_ ?_
  refine must_mk ?_ ?_
  exact hK
  rfl
  refine must_mk ?_ ?_
  refine must_mk ?_ ?_
  exact hK
  rfl
  rfl
  refine must_mk ?_ ?_
  refine must_mk ?_ ?_
  refine must_mk ?_ ?_
  exact hK
  rfl
  refine must_mk ?_ ?_
  refine must_mk ?_ ?_
  exact hK
  rfl
  rfl
  rfl
  rfl
  refine must_mk ?_ ?_
  refine must_mk ?_ ?_
  refine must_mk ?_ ?_
  refine must_mk ?_ ?_
  refine must_mk ?_ ?_
  exact hK
  rfl
  refine must_mk ?_ ?_
  refine must_mk ?_ ?_
  exact hK
  rfl
  rfl
  refine must_mk ?_ ?_
  refine must_mk ?_ ?_
  refine must_mk ?_ ?_
  exact hK
  rfl
  refine must_mk ?_ ?_
  refine must_mk ?_ ?_
  exact hK
  rfl
  rfl
  refine must_mk ?_ ?_
  refine must_mk ?_ ?_
  refine must_mk ?_ ?_
  exact hK
  rfl
  refine must_mk ?_ ?_
  refine must_mk ?_ ?_
  exact hK
  rfl
  rfl
  rfl
  rfl
  rfl
  refine must_mk ?_ ?_
  refine must_mk ?_ ?_
  refine must_mk ?_ ?_
  refine must_mk ?_ ?_
  refine must_mk ?_ ?_
  refine must_mk ?_ ?_
  exact hK
  rfl
  refine must_mk ?_ ?_
  refine must_mk ?_ ?_
  exact hK
  rfl
  rfl
  refine must_mk ?_ ?_
  refine must_mk ?_ ?_
  refine must_mk ?_ ?_
  exact hK
  rfl
  refine must_mk ?_ ?_
  refine must_mk ?_ ?_
  exact hK
  rfl
  rfl
  refine must_mk ?_ ?_
  refine must_mk ?_ ?_
  refine must_mk ?_ ?_
  exact hK
  rfl
  refine must_mk ?_ ?_
  refine must_mk ?_ ?_
  exact hK
  rfl
  rfl
  rfl
  rfl
  refine must_mk ?_ ?_
  refine must_mk ?_ ?_
  refine must_mk ?_ ?_
  refine must_mk ?_ ?_
  refine must_mk ?_ ?_
  exact hK
  rfl
  refine must_mk ?_ ?_
  refine must_mk ?_ ?_
  exact hK
  rfl
  rfl
  refine must_mk ?_ ?_
  refine must_mk ?_ ?_
  refine must_mk ?_ ?_
  exact hK
  rfl
  refine must_mk ?_ ?_
  refine must_mk ?_ ?_
  exact hK
  rfl
  rfl
  refine must_mk ?_ ?_
  refine must_mk ?_ ?_
  refine must_mk ?_ ?_
  exact hK
  rfl
  refine must_mk ?_ ?_
  refine must_mk ?_ ?_
  exact hK
  rfl
  rfl
  rfl
  rfl
  rfl
  refine must_mk ?_ ?_
  refine must_mk ?_ ?_
  refine must_mk ?_ ?_
  refine must_mk ?_ ?_
  refine must_mk ?_ ?_
  refine must_mk ?_ ?_
  exact hK
  rfl
  refine must_mk ?_ ?_
  refine must_mk ?_ ?_
  exact hK
  rfl
  rfl
  refine must_mk ?_ ?_
  refine must_mk ?_ ?_
  refine must_mk ?_ ?_
  exact hK
  rfl
  refine must_mk ?_ ?_
  refine must_mk ?_ ?_
  exact hK
  rfl
  rfl
  refine must_mk ?_ ?_
  refine must_mk ?_ ?_
  refine must_mk ?_ ?_
  exact hK
  rfl
  refine must_mk ?_ ?_
  refine must_mk ?_ ?_
  exact hK
  rfl
  rfl
  rfl
  rfl
  refine must_mk ?_ ?_
  refine must_mk ?_ ?_
  refine must_mk ?_ ?_
  refine must_mk ?_ ?_
  refine must_mk ?_ ?_
  exact hK
  rfl
  refine must_mk ?_ ?_
  refine must_mk ?_ ?_
  exact hK
  rfl
  rfl
  refine must_mk ?_ ?_
  refine must_mk ?_ ?_
  refine must_mk ?_ ?_
  exact hK
  rfl
  refine must_mk ?_ ?_
  refine must_mk ?_ ?_
  exact hK
  rfl
  rfl
  refine must_mk ?_ ?_
  refine must_mk ?_ ?_
  refine must_mk ?_ ?_
  exact hK
  rfl
  refine must_mk ?_ ?_
  refine must_mk ?_ ?_
  exact hK
  rfl
  rfl
  rfl
  rfl
  rfl
  rfl
  refine must_mk ?_ ?_
  refine must_mk ?_ ?_
  refine must_mk ?_ ?_
  refine must_mk ?_ ?_
  refine must_mk ?_ ?_
  refine must_mk ?_ ?_
  exact hK
  rfl
  refine must_mk ?_ ?_
  refine must_mk ?_ ?_
  exact hK
  rfl
  rfl
  refine must_mk ?_ ?_
  refine must_mk ?_ ?_
  refine must_mk ?_ ?_
  exact hK
  rfl
  refine must_mk ?_ ?_
  refine must_mk ?_ ?_
  exact hK
  rfl
  rfl
  refine must_mk ?_ ?_
  refine must_mk ?_ ?_
  refine must_mk ?_ ?_
  exact hK
  rfl
  refine must_mk ?_ ?_
  refine must_mk ?_ ?_
  exact hK
  rfl
  rfl
  rfl
  rfl
  refine must_mk ?_ ?_
  refine must_mk ?_ ?_
  refine must_mk ?_ ?_
  refine must_mk ?_ ?_
  refine must_mk ?_ ?_
  exact hK
  rfl
  refine must_mk ?_ ?_
  refine must_mk ?_ ?_
  exact hK
  rfl
  rfl
  refine must_mk ?_ ?_
  refine must_mk ?_ ?_
  refine must_mk ?_ ?_
  exact hK
  rfl
  refine must_mk ?_ ?_
  refine must_mk ?_ ?_
  exact hK
  rfl
  rfl
  refine must_mk ?_ ?_
  refine must_mk ?_ ?_
  refine must_mk ?_ ?_
  exact hK
  rfl
  refine must_mk ?_ ?_
  refine must_mk ?_ ?_
  exact hK
  rfl
  rfl
  rfl
  rfl
  rfl
  refine must_mk ?_ ?_
  refine must_mk ?_ ?_
  refine must_mk ?_ ?_
  refine must_mk ?_ ?_
  refine must_mk ?_ ?_
  refine must_mk ?_ ?_
  exact hK
  rfl
  refine must_mk ?_ ?_
  refine must_mk ?_ ?_
  exact hK
  rfl
  rfl
  refine must_mk ?_ ?_
  refine must_mk ?_ ?_
  refine must_mk ?_ ?_
  exact hK
  rfl
  refine must_mk ?_ ?_
  refine must_mk ?_ ?_
  exact hK
  rfl
  rfl
  refine must_mk ?_ ?_
  refine must_mk ?_ ?_
  refine must_mk ?_ ?_
  exact hK
  rfl
  refine must_mk ?_ ?_
  refine must_mk ?_ ?_
  exact hK
  rfl
  rfl
  rfl
  rfl
  refine must_mk ?_ ?_
  refine must_mk ?_ ?_
  refine must_mk ?_ ?_
  refine must_mk ?_ ?_
  refine must_mk ?_ ?_
  exact hK
  rfl
  refine must_mk ?_ ?_
  refine must_mk ?_ ?_
  exact hK
  rfl
  rfl
  refine must_mk ?_ ?_
  refine must_mk ?_ ?_
  refine must_mk ?_ ?_
  exact hK
  rfl
  refine must_mk ?_ ?_
  refine must_mk ?_ ?_
  exact hK
  rfl
  rfl
  refine must_mk ?_ ?_
  refine must_mk ?_ ?_
  refine must_mk ?_ ?_
  exact hK
  rfl
  refine must_mk ?_ ?_
  refine must_mk ?_ ?_
  exact hK
  rfl
  rfl
  rfl
  rfl
  rfl
  refine must_mk ?_ ?_
  refine must_mk ?_ ?_
  refine must_mk ?_ ?_
  refine must_mk ?_ ?_
  refine must_mk ?_ ?_
  refine must_mk ?_ ?_
  exact hK
  rfl
  refine must_mk ?_ ?_
  refine must_mk ?_ ?_
  exact hK
  rfl
  rfl
  refine must_mk ?_ ?_
  refine must_mk ?_ ?_
  refine must_mk ?_ ?_
  exact hK
  rfl
  refine must_mk ?_ ?_
  refine must_mk ?_ ?_
  exact hK
  rfl
  rfl
  refine must_mk ?_ ?_
  refine must_mk ?_ ?_
  refine must_mk ?_ ?_
  exact hK
  rfl
  refine must_mk ?_ ?_
  refine must_mk ?_ ?_
  exact hK
  rfl
  rfl
  rfl
  rfl
  refine must_mk ?_ ?_
  refine must_mk ?_ ?_
  refine must_mk ?_ ?_
  refine must_mk ?_ ?_
  refine must_mk ?_ ?_
  exact hK
  rfl
  refine must_mk ?_ ?_
  refine must_mk ?_ ?_
  exact hK
  rfl
  rfl
  refine must_mk ?_ ?_
  refine must_mk ?_ ?_
  refine must_mk ?_ ?_
  exact hK
  rfl
  refine must_mk ?_ ?_
  refine must_mk ?_ ?_
  exact hK
  rfl
  rfl
  refine must_mk ?_ ?_
  refine must_mk ?_ ?_
  refine must_mk ?_ ?_
  exact hK
  rfl
  refine must_mk ?_ ?_
  refine must_mk ?_ ?_
  exact hK
  rfl
  rfl
  rfl
  rfl
  rfl
  rfl
noncomputable def nat_knows := natC nat_step5 0 (esOf I_knows out_knows) 16 []
theorem nat_knows_ok : NatsOk Try.prog nat_knows := natC_ok (natE_pn (f := 16) (k := 0) (cfT_ok nat0_ok) ft_knows_ok (by rfl) (by rfl) vf_knows) nat_step5_ok
def ft_new10 : XF := .mk 52 (.one 6) (.aft (.seq (g_ 3 [e_ 0 3 (.box 27 (.t 0)), e_ 1 4 (.box 31 (.t 1)), p_ 2 6 (.mv (.c .nilP))]) (.seq (.seq (g_ 14 [r_ 0 10 (.ld true 3 (.t 3)), c_ 1 11 30 [.t 10], p_ 2 12 (.un 0 (.t 11)), p_ 3 13 (m_ 12), rg_ 4 14 13 false (.ld true 3 (.t 3)), rg_ 5 15 13 false (.ld true 2 (.t 4)), cg_ 6 16 13 false 31 [.t 14, .t 15], pg_ 7 17 13 false (.bin 3 0 (.t 16) (i_ 0)), p_ 8 18 (.pick (.t 13) (.c (.bool true)) (.t 17)), p_ 9 19 (m_ 18), pg_ 10 20 19 false (m_ 2), pg_ 11 21 19 false (k_ 20), pg_ 12 22 19 false (.bin 3 2 (.t 21) (i_ 400)), p_ 13 23 (.pick (.t 19) (.c (.bool true)) (.t 22))]) (.cond (.t 23) (.seq (g_ 1 [p_ 0 6 (.mv (.c .nilP))]) .ret) .skip)) (.seq (.reg true 13 (.split 1 9 (.split 4 9 (.leaf [r_ 0 24 (.ld true 3 (.t 3)), r_ 2 26 (.ld true 2 (.t 4)), p_ 3 27 (m_ 2), p_ 5 29 (m_ 2), p_ 6 30 (k_ 29), p_ 7 31 (m_ 2), p_ 8 32 (k_ 31), c_ 1 25 32 [.t 24], a_ 2 26 (.ld true 2 (.t 4)), c_ 4 28 33 [.t 27], a_ 2 26 (.ld true 2 (.t 4)), e_ 9 33 .mkm, a_ 2 26 (.ld true 2 (.t 4)), p_ 10 34 (.bld [.int 1 (.ofNat 0), .int 3 (.ofNat 0), .nilS, .int 1 (.ofNat 0), .int 2 (.ofNat 0), .nilS, .int 0 (.ofNat 0), .int 0 (.ofNat 0), .bool false, .nilM] [(0, 3), (3, 2), (5, 1), (6, 1), (7, 1), (9, 1)] [.t 25, .t 26, .t 28, .t 30, .t 32, .t 33]), e_ 11 35 (.box 67 (.t 34)), p_ 12 7 (m_ 35)]) (.leaf [r_ 0 24 (.ld true 3 (.t 3)), r_ 2 26 (.ld true 2 (.t 4)), p_ 3 27 (m_ 2), p_ 5 29 (m_ 2), p_ 6 30 (k_ 29), p_ 7 31 (m_ 2), p_ 8 32 (k_ 31), c_ 1 25 32 [.t 24], a_ 2 26 (.ld true 2 (.t 4)), e_ 9 33 .mkm, a_ 2 26 (.ld true 2 (.t 4)), c_ 4 28 33 [.t 27], a_ 2 26 (.ld true 2 (.t 4)), p_ 10 34 (.bld [.int 1 (.ofNat 0), .int 3 (.ofNat 0), .nilS, .int 1 (.ofNat 0), .int 2 (.ofNat 0), .nilS, .int 0 (.ofNat 0), .int 0 (.ofNat 0), .bool false, .nilM] [(0, 3), (3, 2), (5, 1), (6, 1), (7, 1), (9, 1)] [.t 25, .t 26, .t 28, .t 30, .t 32, .t 33]), e_ 11 35 (.box 67 (.t 34)), p_ 12 7 (m_ 35)])) (.leaf [r_ 0 24 (.ld true 3 (.t 3)), r_ 2 26 (.ld true 2 (.t 4)), p_ 3 27 (m_ 2), p_ 5 29 (m_ 2), p_ 6 30 (k_ 29), p_ 7 31 (m_ 2), p_ 8 32 (k_ 31), e_ 9 33 .mkm, a_ 0 24 (.ld true 3 (.t 3)), a_ 2 26 (.ld true 2 (.t 4)), c_ 1 25 32 [.t 24], a_ 2 26 (.ld true 2 (.t 4)), c_ 4 28 33 [.t 27], a_ 2 26 (.ld true 2 (.t 4)), p_ 10 34 (.bld [.int 1 (.ofNat 0), .int 3 (.ofNat 0), .nilS, .int 1 (.ofNat 0), .int 2 (.ofNat 0), .nilS, .int 0 (.ofNat 0), .int 0 (.ofNat 0), .bool false, .nilM] [(0, 3), (3, 2), (5, 1), (6, 1), (7, 1), (9, 1)] [.t 25, .t 26, .t 28, .t 30, .t 32, .t 33]), e_ 11 35 (.box 67 (.t 34)), p_ 12 7 (m_ 35)]))) (.seq (.seq (g_ 4 [p_ 0 36 (f_ 2 3), r_ 1 37 (l_ 36), p_ 2 38 (k_ 37), p_ 3 39 (.mv (i_ 0))]) (.block 2 (.loop [2, 6, 7, 9, 37, 38, 39, 40, 41, 42, 43, 44, 45, 46, 47, 48, 49, 50, 51] (.seq (g_ 1 [p_ 0 40 (.bin 3 0 (.t 39) (.t 38))]) (.seq (.cond (.t 40) .skip (.exit 2)) (.seq (.block 3 (.seq (g_ 4 [p_ 0 41 (.ixs 2 (.t 37) (.t 39)), r_ 1 42 (.ld true 2 (.t 41)), e_ 2 9 (.al 31 [.int 1 (.ofNat 0), .int 2 (.ofNat 0)]), e0_ 3 (.st 2 (.t 9) (.t 42))]) (h_ 8 [p_ 0 43 (m_ 7), p_ 1 44 (n_ 43), p_ 2 45 (f_ 9 44), r_ 3 46 (l_ 45), r_ 4 47 (.ld true 2 (.t 9)), p_ 5 48 (m_ 2), p_ 6 49 (k_ 48), e0_ 7 (.mu 2 (.st [(0, 1, false, .int), (1, 1, false, .int)]) (.t 46) (.t 47) (.t 49))]))) (g_ 2 [p_ 0 50 (.bin 0 0 (.t 39) (i_ 1)), p_ 1 39 (m_ 50)]))))))) (.seq (g_ 2 [p_ 0 51 (m_ 7), p_ 1 6 (m_ 51)]) .ret))))) [(1, [.can 0 [6], .cell 0 0 5 45 18 Int encK, .upc 0 0 7, .upc 0 0 8, .can 0 [6], .upm 3])])
theorem ft_new10_ok : chkF Try.prog 7 ft_new10 = true := by kernel_rfl
abbrev A_new10 := Unit
noncomputable def I_new10 (p : A_new10) : IE := ([.agg [.int 1 (.ofNat 0), .int 3 (.ofNat 1), .sl 0 0 1 (.rest 0)], .agg [.int 1 (.ofNat 0), .int 2 (.ofNat 1)], .nilS], (.node .leaf (some (.blk true 31 2 [[.int 1 (.ofNat 0), .int 2 (.ofNat 1)]])) .leaf), 1)
noncomputable def out_new10 (p : A_new10) (K : KE) : Bool := K (.ptr 0 0) (Ro1n ([] : List Int) 0 (false = true) 0) 4
theorem vf_new10 (p : A_new10) (K : KE) (hK : out_new10 p K = true) : (funE 0 (cfT nat0) noLp 600 ft_new10 (I_new10 p).1 (I_new10 p).2.1 (I_new10 p).2.2 K) = true := by
  refine Eq.trans (b := (let z0 : Bool := (K (.ptr 0 0) (Ro1 ([] : List Int) 0 (false = true) 0 0) 4); must (must (must (prB ((.sl 2 0 0 (.ex 0) : AV) = (.sl 2 0 0 (.ex 0) : AV))) z0) (must (prB ((.sl 2 0 0 (.ex 0) : AV) = (.sl 2 0 0 (.ex 0) : AV))) z0)) (must (prB ((.sl 2 0 0 (.ex 0) : AV) = (.sl 2 0 0 (.ex 0) : AV))) z0))) (by kernel_rfl) ?_
  repeat' (first | exact hK | refine mustP rfl ?_ | refine must_mk ?_ ?_)
noncomputable def ec_new10 : SpecE := tstE (fun us M => andQ (Nat.beq (nEl M 0) 1) (Nat.beq (argZ us 1 0) 0)) (esOf I_new10 out_new10) (fun _ _ _ _ => false)
theorem nc_new10 : NatE Try.prog 7 0 ec_new10 := tstE_ok (natE_pn (f := 7) (k := 0) (cfT_ok nat0_ok) ft_new10_ok (by rfl) (by rfl) vf_new10) natE_no
noncomputable def nat_new10 := natC nat_knows 0 ec_new10 7 [(0, 15), (1, 15), (2, 8)]
theorem nat_new10_ok : NatsOk Try.prog nat_new10 := natC_ok nc_new10 nat_knows_ok
def ft_new20 : XF := ft_new10
theorem ft_new20_ok : chkF Try.prog 7 ft_new20 = true := ft_new10_ok
abbrev A_new20 := Unit
noncomputable def I_new20 (p : A_new20) : IE := ([.agg [.int 1 (.ofNat 0), .int 3 (.ofNat 1), .sl 0 0 2 (.rest 0)], .agg [.int 1 (.ofNat 0), .int 2 (.ofNat 1)], .nilS], (.node .leaf (some (.blk true 31 2 [[.int 1 (.ofNat 0), .int 2 (.ofNat 1)], [.int 1 (.ofNat 1), .int 2 (.ofNat 1)]])) .leaf), 1)
noncomputable def out_new20 (p : A_new20) (K : KE) : Bool := K (.ptr 0 0) (Ro2n ([] : List Int) 0 (false = true) 0 0) 4
theorem vf_new20 (p : A_new20) (K : KE) (hK : out_new20 p K = true) : (funE 0 (cfT nat0) noLp 600 ft_new20 (I_new20 p).1 (I_new20 p).2.1 (I_new20 p).2.2 K) = true := by
  refine Eq.trans (b := (let z0 : Bool := (K (.ptr 0 0) (Ro2 ([] : List Int) 0 (false = true) 0 0 0) 4); must (must (must (prB ((.sl 2 0 0 (.ex 0) : AV) = (.sl 2 0 0 (.ex 0) : AV))) z0) (must (prB ((.sl 2 0 0 (.ex 0) : AV) = (.sl 2 0 0 (.ex 0) : AV))) z0)) (must (prB ((.sl 2 0 0 (.ex 0) : AV) = (.sl 2 0 0 (.ex 0) : AV))) z0))) (by kernel_rfl) ?_
  repeat' (first | exact hK | refine mustP rfl ?_ | refine must_mk ?_ ?_)
noncomputable def ec_new20 : SpecE := tstE (fun us M => andQ (Nat.beq (nEl M 0) 2) (Nat.beq (argZ us 1 0) 0)) (esOf I_new20 out_new20) ec_new10
theorem nc_new20 : NatE Try.prog 7 0 ec_new20 := tstE_ok (natE_pn (f := 7) (k := 0) (cfT_ok nat0_ok) ft_new20_ok (by rfl) (by rfl) vf_new20) nc_new10
noncomputable def nat_new20 := natC nat_new10 0 ec_new20 7 [(0, 15), (1, 15), (2, 8)]
theorem nat_new20_ok : NatsOk Try.prog nat_new20 := natC_ok nc_new20 nat_new10_ok
def ft_new21 : XF := .mk 52 (.one 6) (.aft (.seq (g_ 3 [e_ 0 3 (.box 27 (.t 0)), e_ 1 4 (.box 31 (.t 1)), p_ 2 6 (.mv (.c .nilP))]) (.seq (.seq (g_ 14 [r_ 0 10 (.ld true 3 (.t 3)), c_ 1 11 30 [.t 10], p_ 2 12 (.un 0 (.t 11)), p_ 3 13 (m_ 12), rg_ 4 14 13 false (.ld true 3 (.t 3)), rg_ 5 15 13 false (.ld true 2 (.t 4)), cg_ 6 16 13 false 31 [.t 14, .t 15], pg_ 7 17 13 false (.bin 3 0 (.t 16) (i_ 0)), p_ 8 18 (.pick (.t 13) (.c (.bool true)) (.t 17)), p_ 9 19 (m_ 18), pg_ 10 20 19 false (m_ 2), pg_ 11 21 19 false (k_ 20), pg_ 12 22 19 false (.bin 3 2 (.t 21) (i_ 400)), p_ 13 23 (.pick (.t 19) (.c (.bool true)) (.t 22))]) (.cond (.t 23) (.seq (g_ 1 [p_ 0 6 (.mv (.c .nilP))]) .ret) .skip)) (.seq (.reg true 13 (.split 1 9 (.split 4 9 (.leaf [r_ 0 24 (.ld true 3 (.t 3)), r_ 2 26 (.ld true 2 (.t 4)), p_ 3 27 (m_ 2), p_ 5 29 (m_ 2), p_ 6 30 (k_ 29), p_ 7 31 (m_ 2), p_ 8 32 (k_ 31), c_ 1 25 32 [.t 24], a_ 2 26 (.ld true 2 (.t 4)), c_ 4 28 33 [.t 27], a_ 2 26 (.ld true 2 (.t 4)), e_ 9 33 .mkm, a_ 2 26 (.ld true 2 (.t 4)), p_ 10 34 (.bld [.int 1 (.ofNat 0), .int 3 (.ofNat 0), .nilS, .int 1 (.ofNat 0), .int 2 (.ofNat 0), .nilS, .int 0 (.ofNat 0), .int 0 (.ofNat 0), .bool false, .nilM] [(0, 3), (3, 2), (5, 1), (6, 1), (7, 1), (9, 1)] [.t 25, .t 26, .t 28, .t 30, .t 32, .t 33]), e_ 11 35 (.box 67 (.t 34)), p_ 12 7 (m_ 35)]) (.leaf [r_ 0 24 (.ld true 3 (.t 3)), r_ 2 26 (.ld true 2 (.t 4)), p_ 3 27 (m_ 2), p_ 5 29 (m_ 2), p_ 6 30 (k_ 29), p_ 7 31 (m_ 2), p_ 8 32 (k_ 31), c_ 1 25 32 [.t 24], a_ 2 26 (.ld true 2 (.t 4)), e_ 9 33 .mkm, a_ 2 26 (.ld true 2 (.t 4)), c_ 4 28 33 [.t 27], a_ 2 26 (.ld true 2 (.t 4)), p_ 10 34 (.bld [.int 1 (.ofNat 0), .int 3 (.ofNat 0), .nilS, .int 1 (.ofNat 0), .int 2 (.ofNat 0), .nilS, .int 0 (.ofNat 0), .int 0 (.ofNat 0), .bool false, .nilM] [(0, 3), (3, 2), (5, 1), (6, 1), (7, 1), (9, 1)] [.t 25, .t 26, .t 28, .t 30, .t 32, .t 33]), e_ 11 35 (.box 67 (.t 34)), p_ 12 7 (m_ 35)])) (.leaf [r_ 0 24 (.ld true 3 (.t 3)), r_ 2 26 (.ld true 2 (.t 4)), p_ 3 27 (m_ 2), p_ 5 29 (m_ 2), p_ 6 30 (k_ 29), p_ 7 31 (m_ 2), p_ 8 32 (k_ 31), e_ 9 33 .mkm, a_ 0 24 (.ld true 3 (.t 3)), a_ 2 26 (.ld true 2 (.t 4)), c_ 1 25 32 [.t 24], a_ 2 26 (.ld true 2 (.t 4)), c_ 4 28 33 [.t 27], a_ 2 26 (.ld true 2 (.t 4)), p_ 10 34 (.bld [.int 1 (.ofNat 0), .int 3 (.ofNat 0), .nilS, .int 1 (.ofNat 0), .int 2 (.ofNat 0), .nilS, .int 0 (.ofNat 0), .int 0 (.ofNat 0), .bool false, .nilM] [(0, 3), (3, 2), (5, 1), (6, 1), (7, 1), (9, 1)] [.t 25, .t 26, .t 28, .t 30, .t 32, .t 33]), e_ 11 35 (.box 67 (.t 34)), p_ 12 7 (m_ 35)]))) (.seq (.seq (g_ 4 [p_ 0 36 (f_ 2 3), r_ 1 37 (l_ 36), p_ 2 38 (k_ 37), p_ 3 39 (.mv (i_ 0))]) (.block 2 (.loop [2, 6, 7, 9, 37, 38, 39, 40, 41, 42, 43, 44, 45, 46, 47, 48, 49, 50, 51] (.seq (g_ 1 [p_ 0 40 (.bin 3 0 (.t 39) (.t 38))]) (.seq (.cond (.t 40) .skip (.exit 2)) (.seq (.block 3 (.seq (g_ 4 [p_ 0 41 (.ixs 2 (.t 37) (.t 39)), r_ 1 42 (.ld true 2 (.t 41)), e_ 2 9 (.al 31 [.int 1 (.ofNat 0), .int 2 (.ofNat 0)]), e0_ 3 (.st 2 (.t 9) (.t 42))]) (h_ 8 [p_ 0 43 (m_ 7), p_ 1 44 (n_ 43), p_ 2 45 (f_ 9 44), r_ 3 46 (l_ 45), r_ 4 47 (.ld true 2 (.t 9)), p_ 5 48 (m_ 2), p_ 6 49 (k_ 48), e0_ 7 (.mu 2 (.st [(0, 1, false, .int), (1, 1, false, .int)]) (.t 46) (.t 47) (.t 49))]))) (g_ 2 [p_ 0 50 (.bin 0 0 (.t 39) (i_ 1)), p_ 1 39 (m_ 50)]))))))) (.seq (g_ 2 [p_ 0 51 (m_ 7), p_ 1 6 (m_ 51)]) .ret))))) [(1, [.can 0 [6], .cell 0 0 5 45 18 Int encK, .upc 0 0 7, .upc 0 0 8, .upc 0 0 3, .can 0 [6], .upm 3])])
theorem ft_new21_ok : chkF Try.prog 7 ft_new21 = true := by kernel_rfl
abbrev A_new21 := Unit
noncomputable def I_new21 (p : A_new21) : IE := ([.agg [.int 1 (.ofNat 0), .int 3 (.ofNat 1), .sl 0 0 2 (.rest 0)], .agg [.int 1 (.ofNat 1), .int 2 (.ofNat 1)], .nilS], (.node .leaf (some (.blk true 31 2 [[.int 1 (.ofNat 0), .int 2 (.ofNat 1)], [.int 1 (.ofNat 1), .int 2 (.ofNat 1)]])) .leaf), 1)
noncomputable def out_new21 (p : A_new21) (K : KE) : Bool := K (.ptr 0 0) (Rm2n ([] : List Int) 0 (false = true) 0 0 1) 4
theorem vf_new21 (p : A_new21) (K : KE) (hK : out_new21 p K = true) : (funE 0 (cfT nat0) noLp 600 ft_new21 (I_new21 p).1 (I_new21 p).2.1 (I_new21 p).2.2 K) = true := by
  refine Eq.trans (b := (let z0 : Bool := (K (.ptr 0 0) (Rm2 ([] : List Int) 0 (false = true) 0 0 1 0) 4); must (must (must (prB ((.sl 2 0 0 (.ex 0) : AV) = (.sl 2 0 0 (.ex 0) : AV))) z0) (must (prB ((.sl 2 0 0 (.ex 0) : AV) = (.sl 2 0 0 (.ex 0) : AV))) z0)) (must (prB ((.sl 2 0 0 (.ex 0) : AV) = (.sl 2 0 0 (.ex 0) : AV))) z0))) (by kernel_rfl) ?_
  repeat' (first | exact hK | refine mustP rfl ?_ | refine must_mk ?_ ?_)
noncomputable def ec_new21 : SpecE := tstE (fun us M => andQ (Nat.beq (nEl M 0) 2) (Nat.beq (argZ us 1 0) 1)) (esOf I_new21 out_new21) ec_new20
theorem nc_new21 : NatE Try.prog 7 0 ec_new21 := tstE_ok (natE_pn (f := 7) (k := 0) (cfT_ok nat0_ok) ft_new21_ok (by rfl) (by rfl) vf_new21) nc_new20
noncomputable def nat_new21 := natC nat_new20 0 ec_new21 7 [(0, 15), (1, 15), (2, 8)]
theorem nat_new21_ok : NatsOk Try.prog nat_new21 := natC_ok nc_new21 nat_new20_ok
def ft_new30 : XF := ft_new10
theorem ft_new30_ok : chkF Try.prog 7 ft_new30 = true := ft_new10_ok
abbrev A_new30 := Unit
noncomputable def I_new30 (p : A_new30) : IE := ([.agg [.int 1 (.ofNat 0), .int 3 (.ofNat 1), .sl 0 0 3 (.rest 0)], .agg [.int 1 (.ofNat 0), .int 2 (.ofNat 1)], .nilS], (.node .leaf (some (.blk true 31 2 [[.int 1 (.ofNat 0), .int 2 (.ofNat 1)], [.int 1 (.ofNat 1), .int 2 (.ofNat 1)], [.int 1 (.ofNat 2), .int 2 (.ofNat 1)]])) .leaf), 1)
noncomputable def out_new30 (p : A_new30) (K : KE) : Bool := K (.ptr 0 0) (Ro3n ([] : List Int) 0 (false = true) 0 0 0) 4
theorem vf_new30 (p : A_new30) (K : KE) (hK : out_new30 p K = true) : (funE 0 (cfT nat0) noLp 600 ft_new30 (I_new30 p).1 (I_new30 p).2.1 (I_new30 p).2.2 K) = true := by
  refine Eq.trans (b := (let z0 : Bool := (K (.ptr 0 0) (Ro3 ([] : List Int) 0 (false = true) 0 0 0 0) 4); must (must (must (prB ((.sl 2 0 0 (.ex 0) : AV) = (.sl 2 0 0 (.ex 0) : AV))) z0) (must (prB ((.sl 2 0 0 (.ex 0) : AV) = (.sl 2 0 0 (.ex 0) : AV))) z0)) (must (prB ((.sl 2 0 0 (.ex 0) : AV) = (.sl 2 0 0 (.ex 0) : AV))) z0))) (by kernel_rfl) ?_
  repeat' (first | exact hK | refine mustP rfl ?_ | refine must_mk ?_ ?_)
noncomputable def ec_new30 : SpecE := tstE (fun us M => andQ (Nat.beq (nEl M 0) 3) (Nat.beq (argZ us 1 0) 0)) (esOf I_new30 out_new30) ec_new21
theorem nc_new30 : NatE Try.prog 7 0 ec_new30 := tstE_ok (natE_pn (f := 7) (k := 0) (cfT_ok nat0_ok) ft_new30_ok (by rfl) (by rfl) vf_new30) nc_new21
noncomputable def nat_new30 := natC nat_new21 0 ec_new30 7 [(0, 15), (1, 15), (2, 8)]
theorem nat_new30_ok : NatsOk Try.prog nat_new30 := natC_ok nc_new30 nat_new21_ok
def ft_new31 : XF := ft_new21
theorem ft_new31_ok : chkF Try.prog 7 ft_new31 = true := ft_new21_ok
abbrev A_new31 := Unit
noncomputable def I_new31 (p : A_new31) : IE := ([.agg [.int 1 (.ofNat 0), .int 3 (.ofNat 1), .sl 0 0 3 (.rest 0)], .agg [.int 1 (.ofNat 1), .int 2 (.ofNat 1)], .nilS], (.node .leaf (some (.blk true 31 2 [[.int 1 (.ofNat 0), .int 2 (.ofNat 1)], [.int 1 (.ofNat 1), .int 2 (.ofNat 1)], [.int 1 (.ofNat 2), .int 2 (.ofNat 1)]])) .leaf), 1)
noncomputable def out_new31 (p : A_new31) (K : KE) : Bool := K (.ptr 0 0) (Rm3n ([] : List Int) 0 (false = true) 0 0 0 1) 4
theorem vf_new31 (p : A_new31) (K : KE) (hK : out_new31 p K = true) : (funE 0 (cfT nat0) noLp 600 ft_new31 (I_new31 p).1 (I_new31 p).2.1 (I_new31 p).2.2 K) = true := by
  refine Eq.trans (b := (let z0 : Bool := (K (.ptr 0 0) (Rm3 ([] : List Int) 0 (false = true) 0 0 0 1 0) 4); must (must (must (prB ((.sl 2 0 0 (.ex 0) : AV) = (.sl 2 0 0 (.ex 0) : AV))) z0) (must (prB ((.sl 2 0 0 (.ex 0) : AV) = (.sl 2 0 0 (.ex 0) : AV))) z0)) (must (prB ((.sl 2 0 0 (.ex 0) : AV) = (.sl 2 0 0 (.ex 0) : AV))) z0))) (by kernel_rfl) ?_
  repeat' (first | exact hK | refine mustP rfl ?_ | refine must_mk ?_ ?_)
noncomputable def ec_new31 : SpecE := tstE (fun us M => andQ (Nat.beq (nEl M 0) 3) (Nat.beq (argZ us 1 0) 1)) (esOf I_new31 out_new31) ec_new30
theorem nc_new31 : NatE Try.prog 7 0 ec_new31 := tstE_ok (natE_pn (f := 7) (k := 0) (cfT_ok nat0_ok) ft_new31_ok (by rfl) (by rfl) vf_new31) nc_new30
noncomputable def nat_new31 := natC nat_new30 0 ec_new31 7 [(0, 15), (1, 15), (2, 8)]
theorem nat_new31_ok : NatsOk Try.prog nat_new31 := natC_ok nc_new31 nat_new30_ok
def ft_new32 : XF := ft_new21
theorem ft_new32_ok : chkF Try.prog 7 ft_new32 = true := ft_new21_ok
abbrev A_new32 := Unit
noncomputable def I_new32 (p : A_new32) : IE := ([.agg [.int 1 (.ofNat 0), .int 3 (.ofNat 1), .sl 0 0 3 (.rest 0)], .agg [.int 1 (.ofNat 2), .int 2 (.ofNat 1)], .nilS], (.node .leaf (some (.blk true 31 2 [[.int 1 (.ofNat 0), .int 2 (.ofNat 1)], [.int 1 (.ofNat 1), .int 2 (.ofNat 1)], [.int 1 (.ofNat 2), .int 2 (.ofNat 1)]])) .leaf), 1)
noncomputable def out_new32 (p : A_new32) (K : KE) : Bool := K (.ptr 0 0) (Rm3n ([] : List Int) 0 (false = true) 0 0 0 2) 4
theorem vf_new32 (p : A_new32) (K : KE) (hK : out_new32 p K = true) : (funE 0 (cfT nat0) noLp 600 ft_new32 (I_new32 p).1 (I_new32 p).2.1 (I_new32 p).2.2 K) = true := by
  refine Eq.trans (b := (let z0 : Bool := (K (.ptr 0 0) (Rm3 ([] : List Int) 0 (false = true) 0 0 0 2 0) 4); must (must (must (prB ((.sl 2 0 0 (.ex 0) : AV) = (.sl 2 0 0 (.ex 0) : AV))) z0) (must (prB ((.sl 2 0 0 (.ex 0) : AV) = (.sl 2 0 0 (.ex 0) : AV))) z0)) (must (prB ((.sl 2 0 0 (.ex 0) : AV) = (.sl 2 0 0 (.ex 0) : AV))) z0))) (by kernel_rfl) ?_
  repeat' (first | exact hK | refine mustP rfl ?_ | refine must_mk ?_ ?_)
noncomputable def ec_new32 : SpecE := tstE (fun us M => andQ (Nat.beq (nEl M 0) 3) (Nat.beq (argZ us 1 0) 2)) (esOf I_new32 out_new32) ec_new31
theorem nc_new32 : NatE Try.prog 7 0 ec_new32 := tstE_ok (natE_pn (f := 7) (k := 0) (cfT_ok nat0_ok) ft_new32_ok (by rfl) (by rfl) vf_new32) nc_new31
noncomputable def nat_new32 := natC nat_new31 0 ec_new32 7 [(0, 15), (1, 15), (2, 8)]
theorem nat_new32_ok : NatsOk Try.prog nat_new32 := natC_ok nc_new32 nat_new31_ok
def ft_new40 : XF := ft_new10
theorem ft_new40_ok : chkF Try.prog 7 ft_new40 = true := ft_new10_ok
abbrev A_new40 := Unit
noncomputable def I_new40 (p : A_new40) : IE := ([.agg [.int 1 (.ofNat 0), .int 3 (.ofNat 1), .sl 0 0 4 (.rest 0)], .agg [.int 1 (.ofNat 0), .int 2 (.ofNat 1)], .nilS], (.node .leaf (some (.blk true 31 2 [[.int 1 (.ofNat 0), .int 2 (.ofNat 1)], [.int 1 (.ofNat 1), .int 2 (.ofNat 1)], [.int 1 (.ofNat 2), .int 2 (.ofNat 1)], [.int 1 (.ofNat 3), .int 2 (.ofNat 1)]])) .leaf), 1)
noncomputable def out_new40 (p : A_new40) (K : KE) : Bool := K (.ptr 0 0) (Ro4n ([] : List Int) 0 (false = true) 0 0 0 0) 4
theorem vf_new40 (p : A_new40) (K : KE) (hK : out_new40 p K = true) : (funE 0 (cfT nat0) noLp 600 ft_new40 (I_new40 p).1 (I_new40 p).2.1 (I_new40 p).2.2 K) = true := by
  refine Eq.trans (b := (let z0 : Bool := (K (.ptr 0 0) (Ro4 ([] : List Int) 0 (false = true) 0 0 0 0 0) 4); must (must (must (prB ((.sl 2 0 0 (.ex 0) : AV) = (.sl 2 0 0 (.ex 0) : AV))) z0) (must (prB ((.sl 2 0 0 (.ex 0) : AV) = (.sl 2 0 0 (.ex 0) : AV))) z0)) (must (prB ((.sl 2 0 0 (.ex 0) : AV) = (.sl 2 0 0 (.ex 0) : AV))) z0))) (by kernel_rfl) ?_
  repeat' (first | exact hK | refine mustP rfl ?_ | refine must_mk ?_ ?_)
noncomputable def ec_new40 : SpecE := tstE (fun us M => andQ (Nat.beq (nEl M 0) 4) (Nat.beq (argZ us 1 0) 0)) (esOf I_new40 out_new40) ec_new32
theorem nc_new40 : NatE Try.prog 7 0 ec_new40 := tstE_ok (natE_pn (f := 7) (k := 0) (cfT_ok nat0_ok) ft_new40_ok (by rfl) (by rfl) vf_new40) nc_new32
noncomputable def nat_new40 := natC nat_new32 0 ec_new40 7 [(0, 15), (1, 15), (2, 8)]
theorem nat_new40_ok : NatsOk Try.prog nat_new40 := natC_ok nc_new40 nat_new32_ok
def ft_new41 : XF := ft_new21
theorem ft_new41_ok : chkF Try.prog 7 ft_new41 = true := ft_new21_ok
abbrev A_new41 := Unit
noncomputable def I_new41 (p : A_new41) : IE := ([.agg [.int 1 (.ofNat 0), .int 3 (.ofNat 1), .sl 0 0 4 (.rest 0)], .agg [.int 1 (.ofNat 1), .int 2 (.ofNat 1)], .nilS], (.node .leaf (some (.blk true 31 2 [[.int 1 (.ofNat 0), .int 2 (.ofNat 1)], [.int 1 (.ofNat 1), .int 2 (.ofNat 1)], [.int 1 (.ofNat 2), .int 2 (.ofNat 1)], [.int 1 (.ofNat 3), .int 2 (.ofNat 1)]])) .leaf), 1)
noncomputable def out_new41 (p : A_new41) (K : KE) : Bool := K (.ptr 0 0) (Rm4n ([] : List Int) 0 (false = true) 0 0 0 0 1) 4
theorem vf_new41 (p : A_new41) (K : KE) (hK : out_new41 p K = true) : (funE 0 (cfT nat0) noLp 600 ft_new41 (I_new41 p).1 (I_new41 p).2.1 (I_new41 p).2.2 K) = true := by
  refine Eq.trans (b := (let z0 : Bool := (K (.ptr 0 0) (Rm4 ([] : List Int) 0 (false = true) 0 0 0 0 1 0) 4); must (must (must (prB ((.sl 2 0 0 (.ex 0) : AV) = (.sl 2 0 0 (.ex 0) : AV))) z0) (must (prB ((.sl 2 0 0 (.ex 0) : AV) = (.sl 2 0 0 (.ex 0) : AV))) z0)) (must (prB ((.sl 2 0 0 (.ex 0) : AV) = (.sl 2 0 0 (.ex 0) : AV))) z0))) (by kernel_rfl) ?_
  repeat' (first | exact hK | refine mustP rfl ?_ | refine must_mk ?_ ?_)
noncomputable def ec_new41 : SpecE := tstE (fun us M => andQ (Nat.beq (nEl M 0) 4) (Nat.beq (argZ us 1 0) 1)) (esOf I_new41 out_new41) ec_new40
theorem nc_new41 : NatE Try.prog 7 0 ec_new41 := tstE_ok (natE_pn (f := 7) (k := 0) (cfT_ok nat0_ok) ft_new41_ok (by rfl) (by rfl) vf_new41) nc_new40
noncomputable def nat_new41 := natC nat_new40 0 ec_new41 7 [(0, 15), (1, 15), (2, 8)]
theorem nat_new41_ok : NatsOk Try.prog nat_new41 := natC_ok nc_new41 nat_new40_ok
def ft_new42 : XF := ft_new21
theorem ft_new42_ok : chkF Try.prog 7 ft_new42 = true := ft_new21_ok
abbrev A_new42 := Unit
noncomputable def I_new42 (p : A_new42) : IE := ([.agg [.int 1 (.ofNat 0), .int 3 (.ofNat 1), .sl 0 0 4 (.rest 0)], .agg [.int 1 (.ofNat 2), .int 2 (.ofNat 1)], .nilS], (.node .leaf (some (.blk true 31 2 [[.int 1 (.ofNat 0), .int 2 (.ofNat 1)], [.int 1 (.ofNat 1), .int 2 (.ofNat 1)], [.int 1 (.ofNat 2), .int 2 (.ofNat 1)], [.int 1 (.ofNat 3), .int 2 (.ofNat 1)]])) .leaf), 1)
noncomputable def out_new42 (p : A_new42) (K : KE) : Bool := K (.ptr 0 0) (Rm4n ([] : List Int) 0 (false = true) 0 0 0 0 2) 4
theorem vf_new42 (p : A_new42) (K : KE) (hK : out_new42 p K = true) : (funE 0 (cfT nat0) noLp 600 ft_new42 (I_new42 p).1 (I_new42 p).2.1 (I_new42 p).2.2 K) = true := by
  refine Eq.trans (b := (let z0 : Bool := (K (.ptr 0 0) (Rm4 ([] : List Int) 0 (false = true) 0 0 0 0 2 0) 4); must (must (must (prB ((.sl 2 0 0 (.ex 0) : AV) = (.sl 2 0 0 (.ex 0) : AV))) z0) (must (prB ((.sl 2 0 0 (.ex 0) : AV) = (.sl 2 0 0 (.ex 0) : AV))) z0)) (must (prB ((.sl 2 0 0 (.ex 0) : AV) = (.sl 2 0 0 (.ex 0) : AV))) z0))) (by kernel_rfl) ?_
  repeat' (first | exact hK | refine mustP rfl ?_ | refine must_mk ?_ ?_)
noncomputable def ec_new42 : SpecE := tstE (fun us M => andQ (Nat.beq (nEl M 0) 4) (Nat.beq (argZ us 1 0) 2)) (esOf I_new42 out_new42) ec_new41
theorem nc_new42 : NatE Try.prog 7 0 ec_new42 := tstE_ok (natE_pn (f := 7) (k := 0) (cfT_ok nat0_ok) ft_new42_ok (by rfl) (by rfl) vf_new42) nc_new41
noncomputable def nat_new42 := natC nat_new41 0 ec_new42 7 [(0, 15), (1, 15), (2, 8)]
theorem nat_new42_ok : NatsOk Try.prog nat_new42 := natC_ok nc_new42 nat_new41_ok
def ft_new43 : XF := ft_new21
theorem ft_new43_ok : chkF Try.prog 7 ft_new43 = true := ft_new21_ok
abbrev A_new43 := Unit
noncomputable def I_new43 (p : A_new43) : IE := ([.agg [.int 1 (.ofNat 0), .int 3 (.ofNat 1), .sl 0 0 4 (.rest 0)], .agg [.int 1 (.ofNat 3), .int 2 (.ofNat 1)], .nilS], (.node .leaf (some (.blk true 31 2 [[.int 1 (.ofNat 0), .int 2 (.ofNat 1)], [.int 1 (.ofNat 1), .int 2 (.ofNat 1)], [.int 1 (.ofNat 2), .int 2 (.ofNat 1)], [.int 1 (.ofNat 3), .int 2 (.ofNat 1)]])) .leaf), 1)
noncomputable def out_new43 (p : A_new43) (K : KE) : Bool := K (.ptr 0 0) (Rm4n ([] : List Int) 0 (false = true) 0 0 0 0 3) 4
theorem vf_new43 (p : A_new43) (K : KE) (hK : out_new43 p K = true) : (funE 0 (cfT nat0) noLp 600 ft_new43 (I_new43 p).1 (I_new43 p).2.1 (I_new43 p).2.2 K) = true := by
  refine Eq.trans (b := (let z0 : Bool := (K (.ptr 0 0) (Rm4 ([] : List Int) 0 (false = true) 0 0 0 0 3 0) 4); must (must (must (prB ((.sl 2 0 0 (.ex 0) : AV) = (.sl 2 0 0 (.ex 0) : AV))) z0) (must (prB ((.sl 2 0 0 (.ex 0) : AV) = (.sl 2 0 0 (.ex 0) : AV))) z0)) (must (prB ((.sl 2 0 0 (.ex 0) : AV) = (.sl 2 0 0 (.ex 0) : AV))) z0))) (by kernel_rfl) ?_
  repeat' (first | exact hK | refine mustP rfl ?_ | refine must_mk ?_ ?_)
noncomputable def ec_new43 : SpecE := tstE (fun us M => andQ (Nat.beq (nEl M 0) 4) (Nat.beq (argZ us 1 0) 3)) (esOf I_new43 out_new43) ec_new42
theorem nc_new43 : NatE Try.prog 7 0 ec_new43 := tstE_ok (natE_pn (f := 7) (k := 0) (cfT_ok nat0_ok) ft_new43_ok (by rfl) (by rfl) vf_new43) nc_new42
noncomputable def nat_new43 := natC nat_new42 0 ec_new43 7 [(0, 15), (1, 15), (2, 8)]
theorem nat_new43_ok : NatsOk Try.prog nat_new43 := natC_ok nc_new43 nat_new42_ok
def ft_new50 : XF := ft_new10
theorem ft_new50_ok : chkF Try.prog 7 ft_new50 = true := ft_new10_ok
abbrev A_new50 := Unit
noncomputable def I_new50 (p : A_new50) : IE := ([.agg [.int 1 (.ofNat 0), .int 3 (.ofNat 1), .sl 0 0 5 (.rest 0)], .agg [.int 1 (.ofNat 0), .int 2 (.ofNat 1)], .nilS], (.node .leaf (some (.blk true 31 2 [[.int 1 (.ofNat 0), .int 2 (.ofNat 1)], [.int 1 (.ofNat 1), .int 2 (.ofNat 1)], [.int 1 (.ofNat 2), .int 2 (.ofNat 1)], [.int 1 (.ofNat 3), .int 2 (.ofNat 1)], [.int 1 (.ofNat 4), .int 2 (.ofNat 1)]])) .leaf), 1)
noncomputable def out_new50 (p : A_new50) (K : KE) : Bool := K (.ptr 0 0) (Ro5n ([] : List Int) 0 (false = true) 0 0 0 0 0) 4
theorem vf_new50 (p : A_new50) (K : KE) (hK : out_new50 p K = true) : (funE 0 (cfT nat0) noLp 600 ft_new50 (I_new50 p).1 (I_new50 p).2.1 (I_new50 p).2.2 K) = true := by
  refine Eq.trans (b := (let z0 : Bool := (K (.ptr 0 0) (Ro5 ([] : List Int) 0 (false = true) 0 0 0 0 0 0) 4); must (must (must (prB ((.sl 2 0 0 (.ex 0) : AV) = (.sl 2 0 0 (.ex 0) : AV))) z0) (must (prB ((.sl 2 0 0 (.ex 0) : AV) = (.sl 2 0 0 (.ex 0) : AV))) z0)) (must (prB ((.sl 2 0 0 (.ex 0) : AV) = (.sl 2 0 0 (.ex 0) : AV))) z0))) (by kernel_rfl) ?_
  repeat' (first | exact hK | refine mustP rfl ?_ | refine must_mk ?_ ?_)
noncomputable def ec_new50 : SpecE := tstE (fun us M => andQ (Nat.beq (nEl M 0) 5) (Nat.beq (argZ us 1 0) 0)) (esOf I_new50 out_new50) ec_new43
theorem nc_new50 : NatE Try.prog 7 0 ec_new50 := tstE_ok (natE_pn (f := 7) (k := 0) (cfT_ok nat0_ok) ft_new50_ok (by rfl) (by rfl) vf_new50) nc_new43
noncomputable def nat_new50 := natC nat_new43 0 ec_new50 7 [(0, 15), (1, 15), (2, 8)]
theorem nat_new50_ok : NatsOk Try.prog nat_new50 := natC_ok nc_new50 nat_new43_ok
def ft_new51 : XF := ft_new21
theorem ft_new51_ok : chkF Try.prog 7 ft_new51 = true := ft_new21_ok
abbrev A_new51 := Unit
noncomputable def I_new51 (p : A_new51) : IE := ([.agg [.int 1 (.ofNat 0), .int 3 (.ofNat 1), .sl 0 0 5 (.rest 0)], .agg [.int 1 (.ofNat 1), .int 2 (.ofNat 1)], .nilS], (.node .leaf (some (.blk true 31 2 [[.int 1 (.ofNat 0), .int 2 (.ofNat 1)], [.int 1 (.ofNat 1), .int 2 (.ofNat 1)], [.int 1 (.ofNat 2), .int 2 (.ofNat 1)], [.int 1 (.ofNat 3), .int 2 (.ofNat 1)], [.int 1 (.ofNat 4), .int 2 (.ofNat 1)]])) .leaf), 1)
noncomputable def out_new51 (p : A_new51) (K : KE) : Bool := K (.ptr 0 0) (Rm5n ([] : List Int) 0 (false = true) 0 0 0 0 0 1) 4
theorem vf_new51 (p : A_new51) (K : KE) (hK : out_new51 p K = true) : (funE 0 (cfT nat0) noLp 600 ft_new51 (I_new51 p).1 (I_new51 p).2.1 (I_new51 p).2.2 K) = true := by
  refine Eq.trans (b := (let z0 : Bool := (K (.ptr 0 0) (Rm5 ([] : List Int) 0 (false = true) 0 0 0 0 0 1 0) 4); must (must (must (prB ((.sl 2 0 0 (.ex 0) : AV) = (.sl 2 0 0 (.ex 0) : AV))) z0) (must (prB ((.sl 2 0 0 (.ex 0) : AV) = (.sl 2 0 0 (.ex 0) : AV))) z0)) (must (prB ((.sl 2 0 0 (.ex 0) : AV) = (.sl 2 0 0 (.ex 0) : AV))) z0))) (by kernel_rfl) ?_
  repeat' (first | exact hK | refine mustP rfl ?_ | refine must_mk ?_ ?_)
noncomputable def ec_new51 : SpecE := tstE (fun us M => andQ (Nat.beq (nEl M 0) 5) (Nat.beq (argZ us 1 0) 1)) (esOf I_new51 out_new51) ec_new50
theorem nc_new51 : NatE Try.prog 7 0 ec_new51 := tstE_ok (natE_pn (f := 7) (k := 0) (cfT_ok nat0_ok) ft_new51_ok (by rfl) (by rfl) vf_new51) nc_new50
noncomputable def nat_new51 := natC nat_new50 0 ec_new51 7 [(0, 15), (1, 15), (2, 8)]
theorem nat_new51_ok : NatsOk Try.prog nat_new51 := natC_ok nc_new51 nat_new50_ok
def ft_new52 : XF := ft_new21
theorem ft_new52_ok : chkF Try.prog 7 ft_new52 = true := ft_new21_ok
abbrev A_new52 := Unit
noncomputable def I_new52 (p : A_new52) : IE := ([.agg [.int 1 (.ofNat 0), .int 3 (.ofNat 1), .sl 0 0 5 (.rest 0)], .agg [.int 1 (.ofNat 2), .int 2 (.ofNat 1)], .nilS], (.node .leaf (some (.blk true 31 2 [[.int 1 (.ofNat 0), .int 2 (.ofNat 1)], [.int 1 (.ofNat 1), .int 2 (.ofNat 1)], [.int 1 (.ofNat 2), .int 2 (.ofNat 1)], [.int 1 (.ofNat 3), .int 2 (.ofNat 1)], [.int 1 (.ofNat 4), .int 2 (.ofNat 1)]])) .leaf), 1)
noncomputable def out_new52 (p : A_new52) (K : KE) : Bool := K (.ptr 0 0) (Rm5n ([] : List Int) 0 (false = true) 0 0 0 0 0 2) 4
theorem vf_new52 (p : A_new52) (K : KE) (hK : out_new52 p K = true) : (funE 0 (cfT nat0) noLp 600 ft_new52 (I_new52 p).1 (I_new52 p).2.1 (I_new52 p).2.2 K) = true := by
  refine Eq.trans (b := (let z0 : Bool := (K (.ptr 0 0) (Rm5 ([] : List Int) 0 (false = true) 0 0 0 0 0 2 0) 4); must (must (must (prB ((.sl 2 0 0 (.ex 0) : AV) = (.sl 2 0 0 (.ex 0) : AV))) z0) (must (prB ((.sl 2 0 0 (.ex 0) : AV) = (.sl 2 0 0 (.ex 0) : AV))) z0)) (must (prB ((.sl 2 0 0 (.ex 0) : AV) = (.sl 2 0 0 (.ex 0) : AV))) z0))) (by kernel_rfl) ?_
  repeat' (first | exact hK | refine mustP rfl ?_ | refine must_mk ?_ ?_)
noncomputable def ec_new52 : SpecE := tstE (fun us M => andQ (Nat.beq (nEl M 0) 5) (Nat.beq (argZ us 1 0) 2)) (esOf I_new52 out_new52) ec_new51
theorem nc_new52 : NatE Try.prog 7 0 ec_new52 := tstE_ok (natE_pn (f := 7) (k := 0) (cfT_ok nat0_ok) ft_new52_ok (by rfl) (by rfl) vf_new52) nc_new51
noncomputable def nat_new52 := natC nat_new51 0 ec_new52 7 [(0, 15), (1, 15), (2, 8)]
theorem nat_new52_ok : NatsOk Try.prog nat_new52 := natC_ok nc_new52 nat_new51_ok
def ft_new53 : XF := ft_new21
theorem ft_new53_ok : chkF Try.prog 7 ft_new53 = true := ft_new21_ok
abbrev A_new53 := Unit
noncomputable def I_new53 (p : A_new53) : IE := ([.agg [.int 1 (.ofNat 0), .int 3 (.ofNat 1), .sl 0 0 5 (.rest 0)], .agg [.int 1 (.ofNat 3), .int 2 (.ofNat 1)], .nilS], (.node .leaf (some (.blk true 31 2 [[.int 1 (.ofNat 0), .int 2 (.ofNat 1)], [.int 1 (.ofNat 1), .int 2 (.ofNat 1)], [.int 1 (.ofNat 2), .int 2 (.ofNat 1)], [.int 1 (.ofNat 3), .int 2 (.ofNat 1)], [.int 1 (.ofNat 4), .int 2 (.ofNat 1)]])) .leaf), 1)
noncomputable def out_new53 (p : A_new53) (K : KE) : Bool := K (.ptr 0 0) (Rm5n ([] : List Int) 0 (false = true) 0 0 0 0 0 3) 4
theorem vf_new53 (p : A_new53) (K : KE) (hK : out_new53 p K = true) : (funE 0 (cfT nat0) noLp 600 ft_new53 (I_new53 p).1 (I_new53 p).2.1 (I_new53 p).2.2 K) = true := by
  refine Eq.trans (b := (let z0 : Bool := (K (.ptr 0 0) (Rm5 ([] : List Int) 0 (false = true) 0 0 0 0 0 3 0) 4); must (must (must (prB ((.sl 2 0 0 (.ex 0) : AV) = (.sl 2 0 0 (.ex 0) : AV))) z0) (must (prB ((.sl 2 0 0 (.ex 0) : AV) = (.sl 2 0 0 (.ex 0) : AV))) z0)) (must (prB ((.sl 2 0 0 (.ex 0) : AV) = (.sl 2 0 0 (.ex 0) : AV))) z0))) (by kernel_rfl) ?_
  repeat' (first | exact hK | refine mustP rfl ?_ | refine must_mk ?_ ?_)
noncomputable def ec_new53 : SpecE := tstE (fun us M => andQ (Nat.beq (nEl M 0) 5) (Nat.beq (argZ us 1 0) 3)) (esOf I_new53 out_new53) ec_new52
theorem nc_new53 : NatE Try.prog 7 0 ec_new53 := tstE_ok (natE_pn (f := 7) (k := 0) (cfT_ok nat0_ok) ft_new53_ok (by rfl) (by rfl) vf_new53) nc_new52
noncomputable def nat_new53 := natC nat_new52 0 ec_new53 7 [(0, 15), (1, 15), (2, 8)]
theorem nat_new53_ok : NatsOk Try.prog nat_new53 := natC_ok nc_new53 nat_new52_ok
def ft_new54 : XF := ft_new21
theorem ft_new54_ok : chkF Try.prog 7 ft_new54 = true := ft_new21_ok
abbrev A_new54 := Unit
noncomputable def I_new54 (p : A_new54) : IE := ([.agg [.int 1 (.ofNat 0), .int 3 (.ofNat 1), .sl 0 0 5 (.rest 0)], .agg [.int 1 (.ofNat 4), .int 2 (.ofNat 1)], .nilS], (.node .leaf (some (.blk true 31 2 [[.int 1 (.ofNat 0), .int 2 (.ofNat 1)], [.int 1 (.ofNat 1), .int 2 (.ofNat 1)], [.int 1 (.ofNat 2), .int 2 (.ofNat 1)], [.int 1 (.ofNat 3), .int 2 (.ofNat 1)], [.int 1 (.ofNat 4), .int 2 (.ofNat 1)]])) .leaf), 1)
noncomputable def out_new54 (p : A_new54) (K : KE) : Bool := K (.ptr 0 0) (Rm5n ([] : List Int) 0 (false = true) 0 0 0 0 0 4) 4
theorem vf_new54 (p : A_new54) (K : KE) (hK : out_new54 p K = true) : (funE 0 (cfT nat0) noLp 600 ft_new54 (I_new54 p).1 (I_new54 p).2.1 (I_new54 p).2.2 K) = true := by
  refine Eq.trans (b := (let z0 : Bool := (K (.ptr 0 0) (Rm5 ([] : List Int) 0 (false = true) 0 0 0 0 0 4 0) 4); must (must (must (prB ((.sl 2 0 0 (.ex 0) : AV) = (.sl 2 0 0 (.ex 0) : AV))) z0) (must (prB ((.sl 2 0 0 (.ex 0) : AV) = (.sl 2 0 0 (.ex 0) : AV))) z0)) (must (prB ((.sl 2 0 0 (.ex 0) : AV) = (.sl 2 0 0 (.ex 0) : AV))) z0))) (by kernel_rfl) ?_
  repeat' (first | exact hK | refine mustP rfl ?_ | refine must_mk ?_ ?_)
noncomputable def ec_new54 : SpecE := tstE (fun us M => andQ (Nat.beq (nEl M 0) 5) (Nat.beq (argZ us 1 0) 4)) (esOf I_new54 out_new54) ec_new53
theorem nc_new54 : NatE Try.prog 7 0 ec_new54 := tstE_ok (natE_pn (f := 7) (k := 0) (cfT_ok nat0_ok) ft_new54_ok (by rfl) (by rfl) vf_new54) nc_new53
noncomputable def nat_new54 := natC nat_new53 0 ec_new54 7 [(0, 15), (1, 15), (2, 8)]
theorem nat_new54_ok : NatsOk Try.prog nat_new54 := natC_ok nc_new54 nat_new53_ok
def ft_made : XF := .mk 32 (.one 2) (.aft (.seq (g_ 1 [p_ 0 2 (.mv (.c .nilP))]) (.seq (.aft (g_ 6 [p_ 0 5 (m_ 0), p_ 1 6 (.bin 0 4 (.t 5) (i_ 5)), p_ 2 7 (.bin 0 0 (.t 6) (i_ 5)), p_ 3 8 (.bin 0 4 (.t 7) (i_ 5)), p_ 4 9 (.bin 0 0 (i_ 1) (.t 8)), p_ 5 0 (m_ 9)]) [(0, [.fix 0 6])]) (.seq (g_ 3 [p_ 0 10 (.bld [.nilS, .nilS, .int 0 (.ofNat 0)] [] []), e_ 1 11 (.box 81 (.t 10)), p_ 2 3 (m_ 11)]) (.seq (.seq (g_ 1 [p_ 0 4 (.mv (i_ 0))]) (.block 2 (.loop [0, 2, 3, 4, 12, 13, 14, 15, 16, 17, 18, 19, 20, 21, 22, 23, 24, 25, 26, 27, 28, 29, 30, 31] (.seq (.seq (g_ 3 [p_ 0 12 (m_ 4), p_ 1 13 (m_ 0), p_ 2 14 (.bin 3 0 (.t 12) (.t 13))]) (.cond (.t 14) .skip (.exit 2))) (.seq (.block 3 (h_ 15 [p_ 0 17 (m_ 3), p_ 1 18 (m_ 3), p_ 2 19 (n_ 18), p_ 3 20 (f_ 0 19), r_ 4 21 (l_ 20), p_ 5 22 (m_ 0), p_ 7 24 (m_ 4), c_ 6 23 8 [.t 22], a_ 4 21 (l_ 20), c_ 8 25 9 [.t 24], a_ 4 21 (l_ 20), c_ 9 26 7 [.t 23, .t 25, .c .nilS], a_ 4 21 (l_ 20), e_ 10 27 (.bsl 22 1 1 [.nilP] [(0, 1)] [.t 26]), a_ 4 21 (l_ 20), e_ 11 28 (.app 22 1 8 (.t 21) (.t 27)), p_ 12 29 (n_ 17), p_ 13 30 (f_ 0 29), e0_ 14 (.st 1 (.t 30) (.t 28))])) (g_ 3 [p_ 0 15 (m_ 4), p_ 1 16 (.bin 0 0 (.t 15) (i_ 1)), p_ 2 4 (m_ 16)])))))) (.seq (g_ 2 [p_ 0 31 (m_ 3), p_ 1 2 (m_ 31)]) .ret))))) [(1, [.can 0 [2], .cell 0 0 1 100 4 Told encT, .upc 0 0 2, .can 0 [2]])])
theorem ft_made_ok : chkF Try.prog 27 ft_made = true := by kernel_rfl
structure A_made where
  n : Int
structure R_made where
  f : F1
structure R_made1 where
  f : F2
structure R_made2 where
  f : F3
structure R_made3 where
  f : F4
structure R_made4 where
  f : F5
def po_made (p : A_made) (r : R_made) : Prop := FI1 r.f ∧ r.f.cnt = 0
def po_made1 (p : A_made) (r : R_made1) : Prop := FI2 r.f ∧ r.f.cnt = 0
def po_made2 (p : A_made) (r : R_made2) : Prop := FI3 r.f ∧ r.f.cnt = 0
def po_made3 (p : A_made) (r : R_made3) : Prop := FI4 r.f ∧ r.f.cnt = 0
def po_made4 (p : A_made) (r : R_made4) : Prop := FI5 r.f ∧ r.f.cnt = 0
noncomputable def I_made (p : A_made) : IE := ([.sy (.int 0 p.n)], .leaf, 0)
noncomputable def out_made (p : A_made) (K : KE) : Bool := must (allB fun r : R_made => ifB (prB (po_made p r)) (K (.ptr 0 0) (Fd1n r.f) 7) true) (must (allB fun r : R_made1 => ifB (prB (po_made1 p r)) (K (.ptr 0 0) (Fd2n r.f) 11) true) (must (allB fun r : R_made2 => ifB (prB (po_made2 p r)) (K (.ptr 0 0) (Fd3n r.f) 15) true) (must (allB fun r : R_made3 => ifB (prB (po_made3 p r)) (K (.ptr 0 0) (Fd4n r.f) 19) true) (allB fun r : R_made4 => ifB (prB (po_made4 p r)) (K (.ptr 0 0) (Fd5n r.f) 23) true))))
theorem vf_made (p : A_made) (K : KE) (hK : out_made p K = true) : (funE 0 (cfT nat_new54) noLp 600 ft_made (I_made p).1 (I_made p).2.1 (I_made p).2.2 K) = true := by
  refine Eq.trans (b := (let y0 : Int := (Int.tmod ((Int.tmod p.n (5 : Int)) + (5 : Int)) (5 : Int)); must (prB ((5 : Int) ≠ 0)) (must (prB (InR 0 ((Int.tmod p.n (5 : Int)) + (5 : Int)))) (must (prB ((5 : Int) ≠ 0)) (must (prB (InR 0 ((1 : Int) + y0))) (ifB (prB (((1 : Int) + y0) = 0)) (must (prB ((.nilS : AV) = (.nilS : AV))) (K (.ptr 0 0) (.node (.node .leaf (some (.prow 100 4 Told ([] : List Told) encT)) .leaf) (some (.blk false 81 3 [[.nilS, .sy (.prow 1 0), .sy (.int 0 0)]])) .leaf) 2)) (ifB (prB (((1 : Int) + y0) = 1)) (exB fun p15 : A_new10 => must (prB (([.agg [.int 1 (.ofNat 0), .int 3 (.ofNat 1), .sl 0 0 1 (.rest 0)], .agg [.int 1 (.ofNat 0), .int 2 (.ofNat 1)], .nilS], (.node .leaf (some (.blk true 31 2 [[.int 1 (.ofNat 0), .int 2 (.ofNat 1)]])) .leaf), 1) = I_new10 p15)) (must (prB ((.nilS : AV) = (.nilS : AV))) (K (.ptr 0 0) (Fd1 ⟨⟨([] : List Int), (0 : Int), false = true⟩, (0 : Int), ([] : List Told), (0 : Int)⟩ 0 (([] : List Int).length)) 7))) (ifB (prB (((1 : Int) + y0) = 2)) (exB fun p13 : A_new20 => must (prB (([.agg [.int 1 (.ofNat 0), .int 3 (.ofNat 1), .sl 0 0 2 (.rest 0)], .agg [.int 1 (.ofNat 0), .int 2 (.ofNat 1)], .nilS], (.node .leaf (some (.blk true 31 2 [[.int 1 (.ofNat 0), .int 2 (.ofNat 1)], [.int 1 (.ofNat 1), .int 2 (.ofNat 1)]])) .leaf), 1) = I_new20 p13)) (exB fun p14 : A_new21 => must (prB (([.agg [.int 1 (.ofNat 0), .int 3 (.ofNat 1), .sl 0 0 2 (.rest 0)], .agg [.int 1 (.ofNat 1), .int 2 (.ofNat 1)], .nilS], (.node .leaf (some (.blk true 31 2 [[.int 1 (.ofNat 0), .int 2 (.ofNat 1)], [.int 1 (.ofNat 1), .int 2 (.ofNat 1)]])) .leaf), 1) = I_new21 p14)) (must (prB ((.nilS : AV) = (.nilS : AV))) (K (.ptr 0 0) (Fd2 ⟨⟨([] : List Int), (0 : Int), false = true⟩, ⟨([] : List Int), (0 : Int), false = true⟩, (0 : Int), (0 : Int), ([] : List Told), (0 : Int)⟩ 0 (([] : List Int).length) (([] : List Int).length)) 11)))) (ifB (prB (((1 : Int) + y0) = 3)) (exB fun p10 : A_new30 => must (prB (([.agg [.int 1 (.ofNat 0), .int 3 (.ofNat 1), .sl 0 0 3 (.rest 0)], .agg [.int 1 (.ofNat 0), .int 2 (.ofNat 1)], .nilS], (.node .leaf (some (.blk true 31 2 [[.int 1 (.ofNat 0), .int 2 (.ofNat 1)], [.int 1 (.ofNat 1), .int 2 (.ofNat 1)], [.int 1 (.ofNat 2), .int 2 (.ofNat 1)]])) .leaf), 1) = I_new30 p10)) (exB fun p11 : A_new31 => must (prB (([.agg [.int 1 (.ofNat 0), .int 3 (.ofNat 1), .sl 0 0 3 (.rest 0)], .agg [.int 1 (.ofNat 1), .int 2 (.ofNat 1)], .nilS], (.node .leaf (some (.blk true 31 2 [[.int 1 (.ofNat 0), .int 2 (.ofNat 1)], [.int 1 (.ofNat 1), .int 2 (.ofNat 1)], [.int 1 (.ofNat 2), .int 2 (.ofNat 1)]])) .leaf), 1) = I_new31 p11)) (exB fun p12 : A_new32 => must (prB (([.agg [.int 1 (.ofNat 0), .int 3 (.ofNat 1), .sl 0 0 3 (.rest 0)], .agg [.int 1 (.ofNat 2), .int 2 (.ofNat 1)], .nilS], (.node .leaf (some (.blk true 31 2 [[.int 1 (.ofNat 0), .int 2 (.ofNat 1)], [.int 1 (.ofNat 1), .int 2 (.ofNat 1)], [.int 1 (.ofNat 2), .int 2 (.ofNat 1)]])) .leaf), 1) = I_new32 p12)) (must (prB ((.nilS : AV) = (.nilS : AV))) (K (.ptr 0 0) (Fd3 ⟨⟨([] : List Int), (0 : Int), false = true⟩, ⟨([] : List Int), (0 : Int), false = true⟩, ⟨([] : List Int), (0 : Int), false = true⟩, (0 : Int), (0 : Int), (0 : Int), ([] : List Told), (0 : Int)⟩ 0 (([] : List Int).length) (([] : List Int).length) (([] : List Int).length)) 15))))) (ifB (prB (((1 : Int) + y0) = 4)) (exB fun p6 : A_new40 => must (prB (([.agg [.int 1 (.ofNat 0), .int 3 (.ofNat 1), .sl 0 0 4 (.rest 0)], .agg [.int 1 (.ofNat 0), .int 2 (.ofNat 1)], .nilS], (.node .leaf (some (.blk true 31 2 [[.int 1 (.ofNat 0), .int 2 (.ofNat 1)], [.int 1 (.ofNat 1), .int 2 (.ofNat 1)], [.int 1 (.ofNat 2), .int 2 (.ofNat 1)], [.int 1 (.ofNat 3), .int 2 (.ofNat 1)]])) .leaf), 1) = I_new40 p6)) (exB fun p7 : A_new41 => must (prB (([.agg [.int 1 (.ofNat 0), .int 3 (.ofNat 1), .sl 0 0 4 (.rest 0)], .agg [.int 1 (.ofNat 1), .int 2 (.ofNat 1)], .nilS], (.node .leaf (some (.blk true 31 2 [[.int 1 (.ofNat 0), .int 2 (.ofNat 1)], [.int 1 (.ofNat 1), .int 2 (.ofNat 1)], [.int 1 (.ofNat 2), .int 2 (.ofNat 1)], [.int 1 (.ofNat 3), .int 2 (.ofNat 1)]])) .leaf), 1) = I_new41 p7)) (exB fun p8 : A_new42 => must (prB (([.agg [.int 1 (.ofNat 0), .int 3 (.ofNat 1), .sl 0 0 4 (.rest 0)], .agg [.int 1 (.ofNat 2), .int 2 (.ofNat 1)], .nilS], (.node .leaf (some (.blk true 31 2 [[.int 1 (.ofNat 0), .int 2 (.ofNat 1)], [.int 1 (.ofNat 1), .int 2 (.ofNat 1)], [.int 1 (.ofNat 2), .int 2 (.ofNat 1)], [.int 1 (.ofNat 3), .int 2 (.ofNat 1)]])) .leaf), 1) = I_new42 p8)) (exB fun p9 : A_new43 => must (prB (([.agg [.int 1 (.ofNat 0), .int 3 (.ofNat 1), .sl 0 0 4 (.rest 0)], .agg [.int 1 (.ofNat 3), .int 2 (.ofNat 1)], .nilS], (.node .leaf (some (.blk true 31 2 [[.int 1 (.ofNat 0), .int 2 (.ofNat 1)], [.int 1 (.ofNat 1), .int 2 (.ofNat 1)], [.int 1 (.ofNat 2), .int 2 (.ofNat 1)], [.int 1 (.ofNat 3), .int 2 (.ofNat 1)]])) .leaf), 1) = I_new43 p9)) (must (prB ((.nilS : AV) = (.nilS : AV))) (K (.ptr 0 0) (Fd4 ⟨⟨([] : List Int), (0 : Int), false = true⟩, ⟨([] : List Int), (0 : Int), false = true⟩, ⟨([] : List Int), (0 : Int), false = true⟩, ⟨([] : List Int), (0 : Int), false = true⟩, (0 : Int), (0 : Int), (0 : Int), (0 : Int), ([] : List Told), (0 : Int)⟩ 0 (([] : List Int).length) (([] : List Int).length) (([] : List Int).length) (([] : List Int).length)) 19)))))) (ifB (prB (((1 : Int) + y0) = 5)) (exB fun p1 : A_new50 => must (prB (([.agg [.int 1 (.ofNat 0), .int 3 (.ofNat 1), .sl 0 0 5 (.rest 0)], .agg [.int 1 (.ofNat 0), .int 2 (.ofNat 1)], .nilS], (.node .leaf (some (.blk true 31 2 [[.int 1 (.ofNat 0), .int 2 (.ofNat 1)], [.int 1 (.ofNat 1), .int 2 (.ofNat 1)], [.int 1 (.ofNat 2), .int 2 (.ofNat 1)], [.int 1 (.ofNat 3), .int 2 (.ofNat 1)], [.int 1 (.ofNat 4), .int 2 (.ofNat 1)]])) .leaf), 1) = I_new50 p1)) (exB fun p2 : A_new51 => must (prB (([.agg [.int 1 (.ofNat 0), .int 3 (.ofNat 1), .sl 0 0 5 (.rest 0)], .agg [.int 1 (.ofNat 1), .int 2 (.ofNat 1)], .nilS], (.node .leaf (some (.blk true 31 2 [[.int 1 (.ofNat 0), .int 2 (.ofNat 1)], [.int 1 (.ofNat 1), .int 2 (.ofNat 1)], [.int 1 (.ofNat 2), .int 2 (.ofNat 1)], [.int 1 (.ofNat 3), .int 2 (.ofNat 1)], [.int 1 (.ofNat 4), .int 2 (.ofNat 1)]])) .leaf), 1) = I_new51 p2)) (exB fun p3 : A_new52 => must (prB (([.agg [.int 1 (.ofNat 0), .int 3 (.ofNat 1), .sl 0 0 5 (.rest 0)], .agg [.int 1 (.ofNat 2), .int 2 (.ofNat 1)], .nilS], (.node .leaf (some (.blk true 31 2 [[.int 1 (.ofNat 0), .int 2 (.ofNat 1)], [.int 1 (.ofNat 1), .int 2 (.ofNat 1)], [.int 1 (.ofNat 2), .int 2 (.ofNat 1)], [.int 1 (.ofNat 3), .int 2 (.ofNat 1)], [.int 1 (.ofNat 4), .int 2 (.ofNat 1)]])) .leaf), 1) = I_new52 p3)) (exB fun p4 : A_new53 => must (prB (([.agg [.int 1 (.ofNat 0), .int 3 (.ofNat 1), .sl 0 0 5 (.rest 0)], .agg [.int 1 (.ofNat 3), .int 2 (.ofNat 1)], .nilS], (.node .leaf (some (.blk true 31 2 [[.int 1 (.ofNat 0), .int 2 (.ofNat 1)], [.int 1 (.ofNat 1), .int 2 (.ofNat 1)], [.int 1 (.ofNat 2), .int 2 (.ofNat 1)], [.int 1 (.ofNat 3), .int 2 (.ofNat 1)], [.int 1 (.ofNat 4), .int 2 (.ofNat 1)]])) .leaf), 1) = I_new53 p4)) (exB fun p5 : A_new54 => must (prB (([.agg [.int 1 (.ofNat 0), .int 3 (.ofNat 1), .sl 0 0 5 (.rest 0)], .agg [.int 1 (.ofNat 4), .int 2 (.ofNat 1)], .nilS], (.node .leaf (some (.blk true 31 2 [[.int 1 (.ofNat 0), .int 2 (.ofNat 1)], [.int 1 (.ofNat 1), .int 2 (.ofNat 1)], [.int 1 (.ofNat 2), .int 2 (.ofNat 1)], [.int 1 (.ofNat 3), .int 2 (.ofNat 1)], [.int 1 (.ofNat 4), .int 2 (.ofNat 1)]])) .leaf), 1) = I_new54 p5)) (must (prB ((.nilS : AV) = (.nilS : AV))) (K (.ptr 0 0) (Fd5 ⟨⟨([] : List Int), (0 : Int), false = true⟩, ⟨([] : List Int), (0 : Int), false = true⟩, ⟨([] : List Int), (0 : Int), false = true⟩, ⟨([] : List Int), (0 : Int), false = true⟩, ⟨([] : List Int), (0 : Int), false = true⟩, (0 : Int), (0 : Int), (0 : Int), (0 : Int), (0 : Int), ([] : List Told), (0 : Int)⟩ 0 (([] : List Int).length) (([] : List Int).length) (([] : List Int).length) (([] : List Int).length) (([] : List Int).length)) 23))))))) (must (prB (False)) (true))))))))))))) (by kernel_rfl) ?_
  obtain ⟨hK0, hKr0⟩ := must_ok hK
  obtain ⟨hK1, hKr1⟩ := must_ok hKr0
  obtain ⟨hK2, hKr2⟩ := must_ok hKr1
  obtain ⟨hK3, hKr3⟩ := must_ok hKr2
  have hK4 := hKr3
  have t1 := tmb 5 (by decide) p.n
  have t2 := tmp 5 (by decide) (p.n.tmod 5 + 5) (by omega)
  refine mustP (by decide) ?_
  refine mustP (by simp only [InR] ; omega) ?_
  refine mustP (by decide) ?_
  refine mustP (by simp only [InR] ; omega) ?_
  refine ifP (fun hc1 => ?_) (fun hc1 => ?_)
  refine mustP (rfl) ?_
  exfalso ; omega
  refine ifP (fun hc2 => ?_) (fun hc2 => ?_)
  refine exB_mk ⟨⟩ ?_
  refine mustP (rfl) ?_
  refine mustP (rfl) ?_
  exact ifB_use (show FI1 (⟨⟨([] : List Int), (0 : Int), false = true⟩, (0 : Int), ([] : List Told), (0 : Int)⟩ : F1) ∧ (0 : Int) = 0 from (by exact ⟨tr_init (by simp) (by simp) rfl, rfl⟩)) (allB_ok hK0 (⟨⟨⟨([] : List Int), (0 : Int), false = true⟩, (0 : Int), ([] : List Told), (0 : Int)⟩⟩ : R_made))
  refine ifP (fun hc3 => ?_) (fun hc3 => ?_)
  refine exB_mk ⟨⟩ ?_
  refine mustP (rfl) ?_
  refine exB_mk ⟨⟩ ?_
  refine mustP (rfl) ?_
  refine mustP (rfl) ?_
  exact ifB_use (show FI2 (⟨⟨([] : List Int), (0 : Int), false = true⟩, ⟨([] : List Int), (0 : Int), false = true⟩, (0 : Int), (0 : Int), ([] : List Told), (0 : Int)⟩ : F2) ∧ (0 : Int) = 0 from (by exact ⟨tr_init (by simp) (by simp) rfl, rfl⟩)) (allB_ok hK1 (⟨⟨⟨([] : List Int), (0 : Int), false = true⟩, ⟨([] : List Int), (0 : Int), false = true⟩, (0 : Int), (0 : Int), ([] : List Told), (0 : Int)⟩⟩ : R_made1))
  refine ifP (fun hc4 => ?_) (fun hc4 => ?_)
  refine exB_mk ⟨⟩ ?_
  refine mustP (rfl) ?_
  refine exB_mk ⟨⟩ ?_
  refine mustP (rfl) ?_
  refine exB_mk ⟨⟩ ?_
  refine mustP (rfl) ?_
  refine mustP (rfl) ?_
  exact ifB_use (show FI3 (⟨⟨([] : List Int), (0 : Int), false = true⟩, ⟨([] : List Int), (0 : Int), false = true⟩, ⟨([] : List Int), (0 : Int), false = true⟩, (0 : Int), (0 : Int), (0 : Int), ([] : List Told), (0 : Int)⟩ : F3) ∧ (0 : Int) = 0 from (by exact ⟨tr_init (by simp) (by simp) rfl, rfl⟩)) (allB_ok hK2 (⟨⟨⟨([] : List Int), (0 : Int), false = true⟩, ⟨([] : List Int), (0 : Int), false = true⟩, ⟨([] : List Int), (0 : Int), false = true⟩, (0 : Int), (0 : Int), (0 : Int), ([] : List Told), (0 : Int)⟩⟩ : R_made2))
  refine ifP (fun hc5 => ?_) (fun hc5 => ?_)
  refine exB_mk ⟨⟩ ?_
  refine mustP (rfl) ?_
  refine exB_mk ⟨⟩ ?_
  refine mustP (rfl) ?_
  refine exB_mk ⟨⟩ ?_
  refine mustP (rfl) ?_
  refine exB_mk ⟨⟩ ?_
  refine mustP (rfl) ?_
  refine mustP (rfl) ?_
  exact ifB_use (show FI4 (⟨⟨([] : List Int), (0 : Int), false = true⟩, ⟨([] : List Int), (0 : Int), false = true⟩, ⟨([] : List Int), (0 : Int), false = true⟩, ⟨([] : List Int), (0 : Int), false = true⟩, (0 : Int), (0 : Int), (0 : Int), (0 : Int), ([] : List Told), (0 : Int)⟩ : F4) ∧ (0 : Int) = 0 from (by exact ⟨tr_init (by simp) (by simp) rfl, rfl⟩)) (allB_ok hK3 (⟨⟨⟨([] : List Int), (0 : Int), false = true⟩, ⟨([] : List Int), (0 : Int), false = true⟩, ⟨([] : List Int), (0 : Int), false = true⟩, ⟨([] : List Int), (0 : Int), false = true⟩, (0 : Int), (0 : Int), (0 : Int), (0 : Int), ([] : List Told), (0 : Int)⟩⟩ : R_made3))
  refine ifP (fun hc6 => ?_) (fun hc6 => ?_)
  refine exB_mk ⟨⟩ ?_
  refine mustP (rfl) ?_
  refine exB_mk ⟨⟩ ?_
  refine mustP (rfl) ?_
  refine exB_mk ⟨⟩ ?_
  refine mustP (rfl) ?_
  refine exB_mk ⟨⟩ ?_
  refine mustP (rfl) ?_
  refine exB_mk ⟨⟩ ?_
  refine mustP (rfl) ?_
  refine mustP (rfl) ?_
  exact ifB_use (show FI5 (⟨⟨([] : List Int), (0 : Int), false = true⟩, ⟨([] : List Int), (0 : Int), false = true⟩, ⟨([] : List Int), (0 : Int), false = true⟩, ⟨([] : List Int), (0 : Int), false = true⟩, ⟨([] : List Int), (0 : Int), false = true⟩, (0 : Int), (0 : Int), (0 : Int), (0 : Int), (0 : Int), ([] : List Told), (0 : Int)⟩ : F5) ∧ (0 : Int) = 0 from (by exact ⟨tr_init (by simp) (by simp) rfl, rfl⟩)) (allB_ok hK4 (⟨⟨⟨([] : List Int), (0 : Int), false = true⟩, ⟨([] : List Int), (0 : Int), false = true⟩, ⟨([] : List Int), (0 : Int), false = true⟩, ⟨([] : List Int), (0 : Int), false = true⟩, ⟨([] : List Int), (0 : Int), false = true⟩, (0 : Int), (0 : Int), (0 : Int), (0 : Int), (0 : Int), ([] : List Told), (0 : Int)⟩⟩ : R_made4))
  refine mustP (by omega) ?_
  rfl
noncomputable def nat_made := natC nat_new54 0 (esOf I_made out_made) 27 [(0, 20)]
theorem nat_made_ok : NatsOk Try.prog nat_made := natC_ok (natE_pn (f := 27) (k := 0) (cfT_ok nat_new54_ok) ft_made_ok (by rfl) (by rfl) vf_made) nat_new54_ok
end Go.Proofs.Try

namespace Go.Proofs.Try
open Go Go.RowKit Go.Sy
open Go.Eng hiding allB
set_option maxRecDepth 1000000
set_option linter.unusedVariables false
set_option maxHeartbeats 4000000
def ft_rollOne : XF := .mk 32 (.one 4) (.seq (g_ 1 [p_ 0 4 (.mv (.c (.bool false)))]) (.seq (.seq (g_ 7 [p_ 0 7 (m_ 1), p_ 1 8 (k_ 7), p_ 2 9 (.bin 3 2 (.t 8) (i_ 120)), p_ 3 10 (m_ 9), cg_ 4 11 10 false 16 [], pg_ 5 12 10 false (.un 0 (.t 11)), p_ 6 13 (.pick (.t 10) (.c (.bool true)) (.t 12))]) (.cond (.t 13) (.seq (g_ 2 [c_ 0 14 16 [], p_ 1 4 (m_ 14)]) .ret) .skip)) (.seq (g_ 3 [p_ 0 15 (m_ 0), c_ 1 16 27 [.t 15], p_ 2 5 (m_ 16)]) (.seq (.seq (g_ 1 [p_ 0 6 (.mv (i_ 0))]) (.block 2 (.pre [.can 0 [1, 5, 6], .up 6, .can 0 [1, 5, 6]] (.inv 0 (.aft (.seq (.seq (g_ 4 [p_ 0 17 (m_ 6), p_ 1 18 (m_ 1), p_ 2 19 (k_ 18), p_ 3 20 (.bin 3 0 (.t 17) (.t 19))]) (.cond (.t 20) .skip (.exit 2))) (.seq (.block 3 (.seq (g_ 6 [p_ 0 23 (m_ 5), p_ 1 24 (m_ 1), p_ 2 25 (m_ 6), p_ 3 26 (.ixs 4 (.t 24) (.t 25)), r_ 4 27 (.ld true 4 (.t 26)), c_ 5 28 28 [.t 23, .t 27]]) (.seq (g_ 3 [p_ 0 29 (m_ 5), c_ 1 30 29 [.t 29], p_ 2 31 (.un 0 (.t 30))]) (.cond (.t 31) (.seq (g_ 1 [p_ 0 4 (.mv (.c (.bool false)))]) .ret) .skip)))) (g_ 3 [p_ 0 21 (m_ 6), p_ 1 22 (.bin 0 0 (.t 21) (i_ 1)), p_ 2 6 (m_ 22)]))) [(0, [.can 0 [1, 5, 6]]), (1, [.can 0 [4]]), (2, [.can 0 []])]))))) (.seq (g_ 1 [p_ 0 4 (.mv (.c (.bool true)))]) .ret)))))
theorem ft_rollOne_ok : chkF Try.prog 5 ft_rollOne = true := by kernel_rfl
structure A_one1 where
  h : Value
  l : List StepR
  f : F1
  i : Int
noncomputable def I_one1 (p : A_one1) : IL := ((.cons 6 (.sy (.int 0 p.i)) (.cons 5 (.ptr 0 0) (.cons 1 (.sy (.imm p.h 4 StepR p.l encS)) .nil))), (Fd1n p.f), 7)
noncomputable def out_one1 (p : A_one1) (K : KC) : Bool := K 2 .nil .leaf 0
def pre_one1 (p : A_one1) : Prop := FI1 p.f ∧ 0 ≤ p.i ∧ p.i ≤ (p.l.length : Int) ∧ p.l.length ≤ 120 ∧ 0 ≤ p.f.cnt ∧ p.f.cnt ≤ p.i
noncomputable def sp_one1 (p : A_one1) (K : KC) : Bool := must (prB (pre_one1 p)) (out_one1 p K)
def mu_one1 (p : A_one1) : Nat := ((p.l.length : Int) - p.i).toNat
structure A_one2 where
  h : Value
  l : List StepR
  f : F2
  i : Int
noncomputable def I_one2 (p : A_one2) : IL := ((.cons 6 (.sy (.int 0 p.i)) (.cons 5 (.ptr 0 0) (.cons 1 (.sy (.imm p.h 4 StepR p.l encS)) .nil))), (Fd2n p.f), 11)
noncomputable def out_one2 (p : A_one2) (K : KC) : Bool := K 2 .nil .leaf 0
def pre_one2 (p : A_one2) : Prop := FI2 p.f ∧ 0 ≤ p.i ∧ p.i ≤ (p.l.length : Int) ∧ p.l.length ≤ 120 ∧ 0 ≤ p.f.cnt ∧ p.f.cnt ≤ p.i
noncomputable def sp_one2 (p : A_one2) (K : KC) : Bool := must (prB (pre_one2 p)) (out_one2 p K)
def mu_one2 (p : A_one2) : Nat := ((p.l.length : Int) - p.i).toNat
structure A_one3 where
  h : Value
  l : List StepR
  f : F3
  i : Int
noncomputable def I_one3 (p : A_one3) : IL := ((.cons 6 (.sy (.int 0 p.i)) (.cons 5 (.ptr 0 0) (.cons 1 (.sy (.imm p.h 4 StepR p.l encS)) .nil))), (Fd3n p.f), 15)
noncomputable def out_one3 (p : A_one3) (K : KC) : Bool := K 2 .nil .leaf 0
def pre_one3 (p : A_one3) : Prop := FI3 p.f ∧ 0 ≤ p.i ∧ p.i ≤ (p.l.length : Int) ∧ p.l.length ≤ 120 ∧ 0 ≤ p.f.cnt ∧ p.f.cnt ≤ p.i
noncomputable def sp_one3 (p : A_one3) (K : KC) : Bool := must (prB (pre_one3 p)) (out_one3 p K)
def mu_one3 (p : A_one3) : Nat := ((p.l.length : Int) - p.i).toNat
structure A_one4 where
  h : Value
  l : List StepR
  f : F4
  i : Int
noncomputable def I_one4 (p : A_one4) : IL := ((.cons 6 (.sy (.int 0 p.i)) (.cons 5 (.ptr 0 0) (.cons 1 (.sy (.imm p.h 4 StepR p.l encS)) .nil))), (Fd4n p.f), 19)
noncomputable def out_one4 (p : A_one4) (K : KC) : Bool := K 2 .nil .leaf 0
def pre_one4 (p : A_one4) : Prop := FI4 p.f ∧ 0 ≤ p.i ∧ p.i ≤ (p.l.length : Int) ∧ p.l.length ≤ 120 ∧ 0 ≤ p.f.cnt ∧ p.f.cnt ≤ p.i
noncomputable def sp_one4 (p : A_one4) (K : KC) : Bool := must (prB (pre_one4 p)) (out_one4 p K)
def mu_one4 (p : A_one4) : Nat := ((p.l.length : Int) - p.i).toNat
structure A_one5 where
  h : Value
  l : List StepR
  f : F5
  i : Int
noncomputable def I_one5 (p : A_one5) : IL := ((.cons 6 (.sy (.int 0 p.i)) (.cons 5 (.ptr 0 0) (.cons 1 (.sy (.imm p.h 4 StepR p.l encS)) .nil))), (Fd5n p.f), 23)
noncomputable def out_one5 (p : A_one5) (K : KC) : Bool := K 2 .nil .leaf 0
def pre_one5 (p : A_one5) : Prop := FI5 p.f ∧ 0 ≤ p.i ∧ p.i ≤ (p.l.length : Int) ∧ p.l.length ≤ 120 ∧ 0 ≤ p.f.cnt ∧ p.f.cnt ≤ p.i
noncomputable def sp_one5 (p : A_one5) (K : KC) : Bool := must (prB (pre_one5 p)) (out_one5 p K)
def mu_one5 (p : A_one5) : Nat := ((p.l.length : Int) - p.i).toNat
noncomputable def lpv_one (S : SL) (M : T) (nx : Nat) (K : KC) : Bool := (Bool.rec (Bool.rec (Bool.rec (Bool.rec (Bool.rec false (exB fun p : A_one5 => must (prB ((S, M, nx) = I_one5 p)) (sp_one5 p K)) (Nat.beq (nEl M 1) 5)) (exB fun p : A_one4 => must (prB ((S, M, nx) = I_one4 p)) (sp_one4 p K)) (Nat.beq (nEl M 1) 4)) (exB fun p : A_one3 => must (prB ((S, M, nx) = I_one3 p)) (sp_one3 p K)) (Nat.beq (nEl M 1) 3)) (exB fun p : A_one2 => must (prB ((S, M, nx) = I_one2 p)) (sp_one2 p K)) (Nat.beq (nEl M 1) 2)) (exB fun p : A_one1 => must (prB ((S, M, nx) = I_one1 p)) (sp_one1 p K)) (Nat.beq (nEl M 1) 1))
inductive A_one where
  | v1 (p : A_one1)
  | v2 (p : A_one2)
  | v3 (p : A_one3)
  | v4 (p : A_one4)
  | v5 (p : A_one5)
noncomputable def I_one (q : A_one) : IL := A_one.casesOn q (fun p => I_one1 p) (fun p => I_one2 p) (fun p => I_one3 p) (fun p => I_one4 p) (fun p => I_one5 p)
def mu_one : A_one → Nat
  | .v1 p => mu_one1 p
  | .v2 p => mu_one2 p
  | .v3 p => mu_one3 p
  | .v4 p => mu_one4 p
  | .v5 p => mu_one5 p
noncomputable def sp_one (q : A_one) (K : KC) : Bool := A_one.casesOn q (fun p => sp_one1 p K) (fun p => sp_one2 p K) (fun p => sp_one3 p K) (fun p => sp_one4 p K) (fun p => sp_one5 p K)
theorem bk_one1 {p q : A_one1} {K : KC} {s : IL} (hm : mu_one1 q < mu_one1 p) (hp : pre_one1 q) (hK : out_one1 q K = true) (e : s = I_one1 q) : (exB fun q => must (prB (s = I_one q ∧ mu_one q < mu_one (.v1 p))) (sp_one q K)) = true := exB_mk (.v1 q) (mustP ⟨e, hm⟩ (mustP hp hK))
theorem bk_one2 {p q : A_one2} {K : KC} {s : IL} (hm : mu_one2 q < mu_one2 p) (hp : pre_one2 q) (hK : out_one2 q K = true) (e : s = I_one2 q) : (exB fun q => must (prB (s = I_one q ∧ mu_one q < mu_one (.v2 p))) (sp_one q K)) = true := exB_mk (.v2 q) (mustP ⟨e, hm⟩ (mustP hp hK))
theorem bk_one3 {p q : A_one3} {K : KC} {s : IL} (hm : mu_one3 q < mu_one3 p) (hp : pre_one3 q) (hK : out_one3 q K = true) (e : s = I_one3 q) : (exB fun q => must (prB (s = I_one q ∧ mu_one q < mu_one (.v3 p))) (sp_one q K)) = true := exB_mk (.v3 q) (mustP ⟨e, hm⟩ (mustP hp hK))
theorem bk_one4 {p q : A_one4} {K : KC} {s : IL} (hm : mu_one4 q < mu_one4 p) (hp : pre_one4 q) (hK : out_one4 q K = true) (e : s = I_one4 q) : (exB fun q => must (prB (s = I_one q ∧ mu_one q < mu_one (.v4 p))) (sp_one q K)) = true := exB_mk (.v4 q) (mustP ⟨e, hm⟩ (mustP hp hK))
theorem bk_one5 {p q : A_one5} {K : KC} {s : IL} (hm : mu_one5 q < mu_one5 p) (hp : pre_one5 q) (hK : out_one5 q K = true) (e : s = I_one5 q) : (exB fun q => must (prB (s = I_one q ∧ mu_one q < mu_one (.v5 p))) (sp_one q K)) = true := exB_mk (.v5 q) (mustP ⟨e, hm⟩ (mustP hp hK))
noncomputable def lp_rollOne : LpF := fun j S M nx K => (Bool.rec (false) (lpv_one S M nx K) (Nat.beq j 0))
def bd_one : XC := (.aft (.seq (.seq (g_ 4 [p_ 0 17 (m_ 6), p_ 1 18 (m_ 1), p_ 2 19 (k_ 18), p_ 3 20 (.bin 3 0 (.t 17) (.t 19))]) (.cond (.t 20) .skip (.exit 2))) (.seq (.block 3 (.seq (g_ 6 [p_ 0 23 (m_ 5), p_ 1 24 (m_ 1), p_ 2 25 (m_ 6), p_ 3 26 (.ixs 4 (.t 24) (.t 25)), r_ 4 27 (.ld true 4 (.t 26)), c_ 5 28 28 [.t 23, .t 27]]) (.seq (g_ 3 [p_ 0 29 (m_ 5), c_ 1 30 29 [.t 29], p_ 2 31 (.un 0 (.t 30))]) (.cond (.t 31) (.seq (g_ 1 [p_ 0 4 (.mv (.c (.bool false)))]) .ret) .skip)))) (g_ 3 [p_ 0 21 (m_ 6), p_ 1 22 (.bin 0 0 (.t 21) (i_ 1)), p_ 2 6 (m_ 22)]))) [(0, [.can 0 [1, 5, 6]]), (1, [.can 0 [4]]), (2, [.can 0 []])])
theorem vb_one1 (p : A_one1) (K : KC) (hpre : pre_one1 p) (hK : out_one1 p K = true) : (codeX (cfT nat_made) lp_rollOne 600 bd_one (I_one1 p).1 (I_one1 p).2.1 (I_one1 p).2.2 (fun e S M nx => Nat.casesOn e (exB fun q : A_one => must (prB ((S, M, nx) = I_one q ∧ mu_one q < mu_one (.v1 p))) (sp_one q K)) (fun e2 => K (Nat.succ e2) S M nx))) = true := by
  refine Eq.trans (b := (ifB (prB (p.i < (p.l.length : Int))) (must (prB (0 ≤ p.i ∧ p.i < (p.l.length : Int))) (allB fun x1 : StepR => ifB (prB (p.l[p.i.toNat]? = some x1)) (exB fun p1 : A_step1 => must (prB (([.ptr 0 0, .agg [.sy (.int 0 x1.k), .sy (.int 0 x1.x), .sy (.int 0 x1.n), .sy (.int 0 x1.i)]], (Fd1n p.f), 7) = I_step1 p1)) (must (prB (pre_step1 p1)) (allB fun r1 : R_step1 => ifB (prB (po_step1 p1 r1)) (exB fun p2 : A_right1 => must (prB (([.ptr 0 0], (Fd1n r1.f), 7) = I_right1 p2)) (must (prB (pre_right1 p2)) (must (prB (InR 0 (p.i + (1 : Int)))) (exB fun q1 : A_one => must (prB (((.cons 6 (.sy (.int 0 (p.i + (1 : Int)))) (.cons 5 (.ptr 0 0) (.cons 1 (.sy (.imm p.h 4 StepR p.l encS)) .nil))), (Fd1n p2.f), 7) = I_one q1 ∧ mu_one q1 < mu_one (.v1 p))) (sp_one q1 K))))) true))) true)) (K 2 .nil .leaf 0))) (by kernel_rfl) ?_
  dsimp only [pre_one1] at hpre
  obtain ⟨g0, g1, g2, g3, g4, g5⟩ := hpre
  refine ifP (fun hc1 => ?_) (fun hc1 => ?_)
  refine mustP (by first | omega | (constructor <;> omega)) ?_
  refine allB_mk (fun x1 => ?_)
  refine ifP (fun hi2 => ?_) (fun _ => rfl)
  refine callPR (⟨p.f, x1.k, x1.x, x1.n, x1.i⟩ : A_step1) rfl (by (try dsimp only [pre_step1]) ; exact ⟨by assumption, by omega, by omega⟩) fun r1 hi3 => ?_
  dsimp only [po_step1] at hi3
  refine callP (⟨r1.f⟩ : A_right1) rfl (by (try dsimp only [pre_right1]) ; first | assumption | exact hi3.1.1 | exact hi3.1) ?_
  refine mustP (by simp only [InR] ; omega) ?_
  exact bk_one1 (q := ⟨p.h, p.l, r1.f, p.i + (1 : Int)⟩) (by dsimp only [mu_one1] ; omega) (by dsimp only [pre_one1] ; exact ⟨hi3.1.1, by omega, by omega, by omega, by omega, by omega⟩) hK rfl
  exact hK
theorem vb_one2 (p : A_one2) (K : KC) (hpre : pre_one2 p) (hK : out_one2 p K = true) : (codeX (cfT nat_made) lp_rollOne 600 bd_one (I_one2 p).1 (I_one2 p).2.1 (I_one2 p).2.2 (fun e S M nx => Nat.casesOn e (exB fun q : A_one => must (prB ((S, M, nx) = I_one q ∧ mu_one q < mu_one (.v2 p))) (sp_one q K)) (fun e2 => K (Nat.succ e2) S M nx))) = true := by
  refine Eq.trans (b := (ifB (prB (p.i < (p.l.length : Int))) (must (prB (0 ≤ p.i ∧ p.i < (p.l.length : Int))) (allB fun x1 : StepR => ifB (prB (p.l[p.i.toNat]? = some x1)) (exB fun p1 : A_step2 => must (prB (([.ptr 0 0, .agg [.sy (.int 0 x1.k), .sy (.int 0 x1.x), .sy (.int 0 x1.n), .sy (.int 0 x1.i)]], (Fd2n p.f), 11) = I_step2 p1)) (must (prB (pre_step2 p1)) (allB fun r1 : R_step2 => ifB (prB (po_step2 p1 r1)) (exB fun p2 : A_right2 => must (prB (([.ptr 0 0], (Fd2n r1.f), 11) = I_right2 p2)) (must (prB (pre_right2 p2)) (must (prB (InR 0 (p.i + (1 : Int)))) (exB fun q1 : A_one => must (prB (((.cons 6 (.sy (.int 0 (p.i + (1 : Int)))) (.cons 5 (.ptr 0 0) (.cons 1 (.sy (.imm p.h 4 StepR p.l encS)) .nil))), (Fd2n p2.f), 11) = I_one q1 ∧ mu_one q1 < mu_one (.v2 p))) (sp_one q1 K))))) true))) true)) (K 2 .nil .leaf 0))) (by kernel_rfl) ?_
  dsimp only [pre_one2] at hpre
  obtain ⟨g0, g1, g2, g3, g4, g5⟩ := hpre
  refine ifP (fun hc1 => ?_) (fun hc1 => ?_)
  refine mustP (by first | omega | (constructor <;> omega)) ?_
  refine allB_mk (fun x1 => ?_)
  refine ifP (fun hi2 => ?_) (fun _ => rfl)
  refine callPR (⟨p.f, x1.k, x1.x, x1.n, x1.i⟩ : A_step2) rfl (by (try dsimp only [pre_step2]) ; exact ⟨by assumption, by omega, by omega⟩) fun r1 hi3 => ?_
  dsimp only [po_step2] at hi3
  refine callP (⟨r1.f⟩ : A_right2) rfl (by (try dsimp only [pre_right2]) ; first | assumption | exact hi3.1.1 | exact hi3.1) ?_
  refine mustP (by simp only [InR] ; omega) ?_
  exact bk_one2 (q := ⟨p.h, p.l, r1.f, p.i + (1 : Int)⟩) (by dsimp only [mu_one2] ; omega) (by dsimp only [pre_one2] ; exact ⟨hi3.1.1, by omega, by omega, by omega, by omega, by omega⟩) hK rfl
  exact hK
theorem vb_one3 (p : A_one3) (K : KC) (hpre : pre_one3 p) (hK : out_one3 p K = true) : (codeX (cfT nat_made) lp_rollOne 600 bd_one (I_one3 p).1 (I_one3 p).2.1 (I_one3 p).2.2 (fun e S M nx => Nat.casesOn e (exB fun q : A_one => must (prB ((S, M, nx) = I_one q ∧ mu_one q < mu_one (.v3 p))) (sp_one q K)) (fun e2 => K (Nat.succ e2) S M nx))) = true := by
  refine Eq.trans (b := (ifB (prB (p.i < (p.l.length : Int))) (must (prB (0 ≤ p.i ∧ p.i < (p.l.length : Int))) (allB fun x1 : StepR => ifB (prB (p.l[p.i.toNat]? = some x1)) (exB fun p1 : A_step3 => must (prB (([.ptr 0 0, .agg [.sy (.int 0 x1.k), .sy (.int 0 x1.x), .sy (.int 0 x1.n), .sy (.int 0 x1.i)]], (Fd3n p.f), 15) = I_step3 p1)) (must (prB (pre_step3 p1)) (allB fun r1 : R_step3 => ifB (prB (po_step3 p1 r1)) (exB fun p2 : A_right3 => must (prB (([.ptr 0 0], (Fd3n r1.f), 15) = I_right3 p2)) (must (prB (pre_right3 p2)) (must (prB (InR 0 (p.i + (1 : Int)))) (exB fun q1 : A_one => must (prB (((.cons 6 (.sy (.int 0 (p.i + (1 : Int)))) (.cons 5 (.ptr 0 0) (.cons 1 (.sy (.imm p.h 4 StepR p.l encS)) .nil))), (Fd3n p2.f), 15) = I_one q1 ∧ mu_one q1 < mu_one (.v3 p))) (sp_one q1 K))))) true))) true)) (K 2 .nil .leaf 0))) (by kernel_rfl) ?_
  dsimp only [pre_one3] at hpre
  obtain ⟨g0, g1, g2, g3, g4, g5⟩ := hpre
  refine ifP (fun hc1 => ?_) (fun hc1 => ?_)
  refine mustP (by first | omega | (constructor <;> omega)) ?_
  refine allB_mk (fun x1 => ?_)
  refine ifP (fun hi2 => ?_) (fun _ => rfl)
  refine callPR (⟨p.f, x1.k, x1.x, x1.n, x1.i⟩ : A_step3) rfl (by (try dsimp only [pre_step3]) ; exact ⟨by assumption, by omega, by omega⟩) fun r1 hi3 => ?_
  dsimp only [po_step3] at hi3
  refine callP (⟨r1.f⟩ : A_right3) rfl (by (try dsimp only [pre_right3]) ; first | assumption | exact hi3.1.1 | exact hi3.1) ?_
  refine mustP (by simp only [InR] ; omega) ?_
  exact bk_one3 (q := ⟨p.h, p.l, r1.f, p.i + (1 : Int)⟩) (by dsimp only [mu_one3] ; omega) (by dsimp only [pre_one3] ; exact ⟨hi3.1.1, by omega, by omega, by omega, by omega, by omega⟩) hK rfl
  exact hK
theorem vb_one4 (p : A_one4) (K : KC) (hpre : pre_one4 p) (hK : out_one4 p K = true) : (codeX (cfT nat_made) lp_rollOne 600 bd_one (I_one4 p).1 (I_one4 p).2.1 (I_one4 p).2.2 (fun e S M nx => Nat.casesOn e (exB fun q : A_one => must (prB ((S, M, nx) = I_one q ∧ mu_one q < mu_one (.v4 p))) (sp_one q K)) (fun e2 => K (Nat.succ e2) S M nx))) = true := by
  refine Eq.trans (b := (ifB (prB (p.i < (p.l.length : Int))) (must (prB (0 ≤ p.i ∧ p.i < (p.l.length : Int))) (allB fun x1 : StepR => ifB (prB (p.l[p.i.toNat]? = some x1)) (exB fun p1 : A_step4 => must (prB (([.ptr 0 0, .agg [.sy (.int 0 x1.k), .sy (.int 0 x1.x), .sy (.int 0 x1.n), .sy (.int 0 x1.i)]], (Fd4n p.f), 19) = I_step4 p1)) (must (prB (pre_step4 p1)) (allB fun r1 : R_step4 => ifB (prB (po_step4 p1 r1)) (exB fun p2 : A_right4 => must (prB (([.ptr 0 0], (Fd4n r1.f), 19) = I_right4 p2)) (must (prB (pre_right4 p2)) (must (prB (InR 0 (p.i + (1 : Int)))) (exB fun q1 : A_one => must (prB (((.cons 6 (.sy (.int 0 (p.i + (1 : Int)))) (.cons 5 (.ptr 0 0) (.cons 1 (.sy (.imm p.h 4 StepR p.l encS)) .nil))), (Fd4n p2.f), 19) = I_one q1 ∧ mu_one q1 < mu_one (.v4 p))) (sp_one q1 K))))) true))) true)) (K 2 .nil .leaf 0))) (by kernel_rfl) ?_
  dsimp only [pre_one4] at hpre
  obtain ⟨g0, g1, g2, g3, g4, g5⟩ := hpre
  refine ifP (fun hc1 => ?_) (fun hc1 => ?_)
  refine mustP (by first | omega | (constructor <;> omega)) ?_
  refine allB_mk (fun x1 => ?_)
  refine ifP (fun hi2 => ?_) (fun _ => rfl)
  refine callPR (⟨p.f, x1.k, x1.x, x1.n, x1.i⟩ : A_step4) rfl (by (try dsimp only [pre_step4]) ; exact ⟨by assumption, by omega, by omega⟩) fun r1 hi3 => ?_
  dsimp only [po_step4] at hi3
  refine callP (⟨r1.f⟩ : A_right4) rfl (by (try dsimp only [pre_right4]) ; first | assumption | exact hi3.1.1 | exact hi3.1) ?_
  refine mustP (by simp only [InR] ; omega) ?_
  exact bk_one4 (q := ⟨p.h, p.l, r1.f, p.i + (1 : Int)⟩) (by dsimp only [mu_one4] ; omega) (by dsimp only [pre_one4] ; exact ⟨hi3.1.1, by omega, by omega, by omega, by omega, by omega⟩) hK rfl
  exact hK
theorem vb_one5 (p : A_one5) (K : KC) (hpre : pre_one5 p) (hK : out_one5 p K = true) : (codeX (cfT nat_made) lp_rollOne 600 bd_one (I_one5 p).1 (I_one5 p).2.1 (I_one5 p).2.2 (fun e S M nx => Nat.casesOn e (exB fun q : A_one => must (prB ((S, M, nx) = I_one q ∧ mu_one q < mu_one (.v5 p))) (sp_one q K)) (fun e2 => K (Nat.succ e2) S M nx))) = true := by
  refine Eq.trans (b := (ifB (prB (p.i < (p.l.length : Int))) (must (prB (0 ≤ p.i ∧ p.i < (p.l.length : Int))) (allB fun x1 : StepR => ifB (prB (p.l[p.i.toNat]? = some x1)) (exB fun p1 : A_step5 => must (prB (([.ptr 0 0, .agg [.sy (.int 0 x1.k), .sy (.int 0 x1.x), .sy (.int 0 x1.n), .sy (.int 0 x1.i)]], (Fd5n p.f), 23) = I_step5 p1)) (must (prB (pre_step5 p1)) (allB fun r1 : R_step5 => ifB (prB (po_step5 p1 r1)) (exB fun p2 : A_right5 => must (prB (([.ptr 0 0], (Fd5n r1.f), 23) = I_right5 p2)) (must (prB (pre_right5 p2)) (must (prB (InR 0 (p.i + (1 : Int)))) (exB fun q1 : A_one => must (prB (((.cons 6 (.sy (.int 0 (p.i + (1 : Int)))) (.cons 5 (.ptr 0 0) (.cons 1 (.sy (.imm p.h 4 StepR p.l encS)) .nil))), (Fd5n p2.f), 23) = I_one q1 ∧ mu_one q1 < mu_one (.v5 p))) (sp_one q1 K))))) true))) true)) (K 2 .nil .leaf 0))) (by kernel_rfl) ?_
  dsimp only [pre_one5] at hpre
  obtain ⟨g0, g1, g2, g3, g4, g5⟩ := hpre
  refine ifP (fun hc1 => ?_) (fun hc1 => ?_)
  refine mustP (by first | omega | (constructor <;> omega)) ?_
  refine allB_mk (fun x1 => ?_)
  refine ifP (fun hi2 => ?_) (fun _ => rfl)
  refine callPR (⟨p.f, x1.k, x1.x, x1.n, x1.i⟩ : A_step5) rfl (by (try dsimp only [pre_step5]) ; exact ⟨by assumption, by omega, by omega⟩) fun r1 hi3 => ?_
  dsimp only [po_step5] at hi3
  refine callP (⟨r1.f⟩ : A_right5) rfl (by (try dsimp only [pre_right5]) ; first | assumption | exact hi3.1.1 | exact hi3.1) ?_
  refine mustP (by simp only [InR] ; omega) ?_
  exact bk_one5 (q := ⟨p.h, p.l, r1.f, p.i + (1 : Int)⟩) (by dsimp only [mu_one5] ; omega) (by dsimp only [pre_one5] ; exact ⟨hi3.1.1, by omega, by omega, by omega, by omega, by omega⟩) hK rfl
  exact hK
theorem lo_one : LpOk Try.prog 32 0 lp_rollOne true 0 bd_one := by
  refine lp_of (lf := 600) tb_mix (cfT_ok nat_made_ok) (by rfl) I_one mu_one sp_one (fun b j x h => by cases h) (fun S M nx K h => ?_) (fun p K h => ?_)
  · have h : lpv_one S M nx K = true := h
    unfold lpv_one at h
    rcases var_ok h with ⟨_, h⟩ | ⟨_, h⟩
    · obtain ⟨p, h⟩ := exB_ok h; exact ⟨.v1 p, (mustP_ok h).1, (mustP_ok h).2⟩
    rcases var_ok h with ⟨_, h⟩ | ⟨_, h⟩
    · obtain ⟨p, h⟩ := exB_ok h; exact ⟨.v2 p, (mustP_ok h).1, (mustP_ok h).2⟩
    rcases var_ok h with ⟨_, h⟩ | ⟨_, h⟩
    · obtain ⟨p, h⟩ := exB_ok h; exact ⟨.v3 p, (mustP_ok h).1, (mustP_ok h).2⟩
    rcases var_ok h with ⟨_, h⟩ | ⟨_, h⟩
    · obtain ⟨p, h⟩ := exB_ok h; exact ⟨.v4 p, (mustP_ok h).1, (mustP_ok h).2⟩
    rcases var_ok h with ⟨_, h⟩ | ⟨_, h⟩
    · obtain ⟨p, h⟩ := exB_ok h; exact ⟨.v5 p, (mustP_ok h).1, (mustP_ok h).2⟩
    cases h
  · cases p with
    | v1 p => have h : sp_one1 p K = true := h; exact vb_one1 p K (mustP_ok h).1 (mustP_ok h).2
    | v2 p => have h : sp_one2 p K = true := h; exact vb_one2 p K (mustP_ok h).1 (mustP_ok h).2
    | v3 p => have h : sp_one3 p K = true := h; exact vb_one3 p K (mustP_ok h).1 (mustP_ok h).2
    | v4 p => have h : sp_one4 p K = true := h; exact vb_one4 p K (mustP_ok h).1 (mustP_ok h).2
    | v5 p => have h : sp_one5 p K = true := h; exact vb_one5 p K (mustP_ok h).1 (mustP_ok h).2
structure A_rollOne where
  n : Int
  h : Value
  l : List StepR
noncomputable def I_rollOne (p : A_rollOne) : IE := ([.sy (.int 0 p.n), .sy (.imm p.h 4 StepR p.l encS)], .leaf, 0)
noncomputable def out_rollOne (p : A_rollOne) (K : KE) : Bool := K (.bool true) .leaf 0
theorem vf_rollOne (p : A_rollOne) (K : KE) (hK : out_rollOne p K = true) : (funE 0 (cfT nat_made) lp_rollOne 600 ft_rollOne (I_rollOne p).1 (I_rollOne p).2.1 (I_rollOne p).2.2 K) = true := by
  refine Eq.trans (b := (let z0 : Bool := (K (.bool true) .leaf 0); ifB (prB ((120 : Int) < (p.l.length : Int))) (exB fun p1 : A_knows => must (prB (([], .leaf, 0) = I_knows p1)) z0) (exB fun p2 : A_knows => must (prB (([], .leaf, 0) = I_knows p2)) (exB fun p3 : A_made => must (prB (([.sy (.int 0 p.n)], .leaf, 0) = I_made p3)) (must (allB fun r5 : R_made => ifB (prB (po_made p3 r5)) (exB fun p8 : A_one1 => must (prB (((.cons 6 (.sy (.int 0 0)) (.cons 5 (.ptr 0 0) (.cons 1 (.sy (.imm p.h 4 StepR p.l encS)) .nil))), (Fd1n r5.f), 7) = I_one1 p8)) (must (prB (pre_one1 p8)) z0)) true) (must (allB fun r4 : R_made1 => ifB (prB (po_made1 p3 r4)) (exB fun p7 : A_one2 => must (prB (((.cons 6 (.sy (.int 0 0)) (.cons 5 (.ptr 0 0) (.cons 1 (.sy (.imm p.h 4 StepR p.l encS)) .nil))), (Fd2n r4.f), 11) = I_one2 p7)) (must (prB (pre_one2 p7)) z0)) true) (must (allB fun r3 : R_made2 => ifB (prB (po_made2 p3 r3)) (exB fun p6 : A_one3 => must (prB (((.cons 6 (.sy (.int 0 0)) (.cons 5 (.ptr 0 0) (.cons 1 (.sy (.imm p.h 4 StepR p.l encS)) .nil))), (Fd3n r3.f), 15) = I_one3 p6)) (must (prB (pre_one3 p6)) z0)) true) (must (allB fun r2 : R_made3 => ifB (prB (po_made3 p3 r2)) (exB fun p5 : A_one4 => must (prB (((.cons 6 (.sy (.int 0 0)) (.cons 5 (.ptr 0 0) (.cons 1 (.sy (.imm p.h 4 StepR p.l encS)) .nil))), (Fd4n r2.f), 19) = I_one4 p5)) (must (prB (pre_one4 p5)) z0)) true) (allB fun r1 : R_made4 => ifB (prB (po_made4 p3 r1)) (exB fun p4 : A_one5 => must (prB (((.cons 6 (.sy (.int 0 0)) (.cons 5 (.ptr 0 0) (.cons 1 (.sy (.imm p.h 4 StepR p.l encS)) .nil))), (Fd5n r1.f), 23) = I_one5 p4)) (must (prB (pre_one5 p4)) z0)) true))))))))) (by kernel_rfl) ?_
  refine ifP (fun hc1 => ?_) (fun hc1 => ?_)
  refine exB_mk ⟨⟩ ?_
  refine mustP (rfl) ?_
  exact hK
  refine exB_mk ⟨⟩ ?_
  refine mustP (rfl) ?_
  refine exB_mk (⟨p.n⟩ : A_made) ?_
  refine mustP (rfl) ?_
  refine must_mk ?_ ?_
  refine allB_mk (fun r5 => ?_)
  refine ifP (p := FI1 r5.f ∧ r5.f.cnt = 0) (fun hi2 => ?_) (fun _ => rfl)
  refine callP (⟨p.h, p.l, r5.f, (0 : Int)⟩ : A_one1) rfl (by (try dsimp only [pre_one1]) ; exact ⟨hi2.1, by omega, by omega, by omega, by omega, by omega⟩) ?_
  exact hK
  refine must_mk ?_ ?_
  refine allB_mk (fun r4 => ?_)
  refine ifP (p := FI2 r4.f ∧ r4.f.cnt = 0) (fun hi3 => ?_) (fun _ => rfl)
  refine callP (⟨p.h, p.l, r4.f, (0 : Int)⟩ : A_one2) rfl (by (try dsimp only [pre_one2]) ; exact ⟨hi3.1, by omega, by omega, by omega, by omega, by omega⟩) ?_
  exact hK
  refine must_mk ?_ ?_
  refine allB_mk (fun r3 => ?_)
  refine ifP (p := FI3 r3.f ∧ r3.f.cnt = 0) (fun hi4 => ?_) (fun _ => rfl)
  refine callP (⟨p.h, p.l, r3.f, (0 : Int)⟩ : A_one3) rfl (by (try dsimp only [pre_one3]) ; exact ⟨hi4.1, by omega, by omega, by omega, by omega, by omega⟩) ?_
  exact hK
  refine must_mk ?_ ?_
  refine allB_mk (fun r2 => ?_)
  refine ifP (p := FI4 r2.f ∧ r2.f.cnt = 0) (fun hi5 => ?_) (fun _ => rfl)
  refine callP (⟨p.h, p.l, r2.f, (0 : Int)⟩ : A_one4) rfl (by (try dsimp only [pre_one4]) ; exact ⟨hi5.1, by omega, by omega, by omega, by omega, by omega⟩) ?_
  exact hK
  refine allB_mk (fun r1 => ?_)
  refine ifP (p := FI5 r1.f ∧ r1.f.cnt = 0) (fun hi6 => ?_) (fun _ => rfl)
  refine callP (⟨p.h, p.l, r1.f, (0 : Int)⟩ : A_one5) rfl (by (try dsimp only [pre_one5]) ; exact ⟨hi6.1, by omega, by omega, by omega, by omega, by omega⟩) ?_
  exact hK
theorem na_rollOne : NatE Try.prog 5 0 (esOf I_rollOne out_rollOne) := (natE_said (f := 5) (k := 0) (lp := lp_rollOne) (lf := 600) tb_mix (cfT_ok nat_made_ok) ft_rollOne_ok (by rfl) (fun b j x h => (mem_step lo_one (fun h => (by cases h)) h)) fun p K h => vf_rollOne p K h)
end Go.Proofs.Try

namespace Go.Proofs.Ytkahniffcehicaa.rollOne
open Go Go.RowKit Go.Eng Go.Sy Go.ChangeShapes Go.WideShapes Go.ChangeAt
open Go.Proofs.Try (StepR)
set_option linter.unusedVariables false
set_option maxRecDepth 100000
theorem leafs74 : Leafs Try.prog 20 74 = some [3, 3, 3, 3] := by kernel_rfl
theorem open_S {H : Type} {en : TypeId × Value → H} {W : World} {fuel : Nat} {cs : List Value} {x : DataW H × List MemPlace} (h : DataW.trod en Try.prog W 0 (fun _ => true) true fuel 69 cs = some x) :
    ∃ (ao : Option Addr) (cap : Nat) (t : List StepR), cs = [.slice ao t.length cap] ∧ RdF (fun x => (Go.Proofs.Try.encS x).map valP) 4 (GS.of W).M ao cap t := by
  rcases Go.Deep.open_slice Try.underlying69 h with ⟨rfl, _⟩ | ⟨a, len, cap, m, n, D, Pl, rfl, _, hl, hm, rfl, _, hel⟩
  · exact ⟨none, 0, [], rfl, RdF.nil _ _ _ _⟩
  · obtain ⟨t, ht, hp⟩ := list_of (p := fun i (x : StepR) => W.cells? 0 (a.add (i * 4)) 4 = some ((Go.Proofs.Try.encS x).map valP)) len (fun i hi => by
      obtain ⟨cs2, h1, h2⟩ := hel i (by first | omega | (simp ; omega))
      obtain ⟨hlen, hleaf⟩ := leafs_trod 20 74 _ leafs74 _ _ _ h2
      obtain ⟨c0, c1, c2, c3, rfl⟩ : ∃ c0 c1 c2 c3, cs2 = [c0, c1, c2, c3] := by
        match cs2, hlen with
        | [c0, c1, c2, c3], _ => exact ⟨c0, c1, c2, c3, rfl⟩
      obtain ⟨z0, rfl, w0⟩ := leaf_int Try.underlying3 (hleaf 0 _ _ rfl rfl)
      obtain ⟨z1, rfl, w1⟩ := leaf_int Try.underlying3 (hleaf 1 _ _ rfl rfl)
      obtain ⟨z2, rfl, w2⟩ := leaf_int Try.underlying3 (hleaf 2 _ _ rfl rfl)
      obtain ⟨z3, rfl, w3⟩ := leaf_int Try.underlying3 (hleaf 3 _ _ rfl rfl)
      exact ⟨⟨z0, z1, z2, z3⟩, h1⟩)
    subst ht
    exact ⟨some a, _, t, rfl, rdf_of (base := 0) hl hm (by decide) (fun _ => rfl) hp⟩
theorem ok_S {M : Mem} {ao : Option Addr} {cap : Nat} {t : List StepR} (h : RdF (fun x => (Go.Proofs.Try.encS x).map valP) 4 M ao cap t) : OkP M (.imm (.slice ao t.length cap) 4 StepR t Go.Proofs.Try.encS) :=
  .imm ao cap rfl h.le h.cap (by decide) h.addr (fun x _ => rfl) (fun x _ p hp => by
    simp only [Go.Proofs.Try.encS, List.mem_cons, List.not_mem_nil, or_false] at hp
    rcases hp with rfl | rfl | rfl | rfl <;> exact .sint _ _) h.row
theorem own : ownKnob Try.prog.godebug = none := by kernel_rfl
theorem laidOut : laidOutB Try.prog = true := by kernel_rfl
theorem walk (a0 : Int) (o1 : Option Addr) (k1 : Nat) (t1 : List StepR) (w : World) (h1 : RdF (fun x => (Go.Proofs.Try.encS x).map valP) 4 (GS.of w).M o1 k1 t1) : Calls Try.prog 5 #[.int .i64 a0, .slice o1 t1.length k1] w (Ret (GS.of w) [] fun _ v => v = .bool true) := by
  let K : AV → T → Nat → Bool := fun v _ _ => prB (v = .bool true)
  have hE : EOk ⟨fun _ => .bool true, (GS.of w).M⟩ := fun i => rfl
  have hd : denL ⟨fun _ => .bool true, (GS.of w).M⟩ (fun _ => none) [.sy (.int 0 a0), .sy (.imm (.slice o1 t1.length k1) 4 StepR t1 Go.Proofs.Try.encS)] = some [.int .i64 a0, .slice o1 t1.length k1] := by
    simp only [denL, den, denS, denP_mk (E := ⟨fun _ => .bool true, (GS.of w).M⟩) (ok_S h1), valP, kOf]
  refine Try.na_rollOne [.sy (.int 0 a0), .sy (.imm (.slice o1 t1.length k1) 4 StepR t1 Go.Proofs.Try.encS)] [.int .i64 a0, .slice o1 t1.length k1] ⟨fun _ => .bool true, (GS.of w).M⟩ (fun _ => none) (GS.of w) [] .leaf 0 w K _ hE (Sim.start rfl (Holds.start w)) hd ?_ ?_
  · exact exB_mk ⟨a0, .slice o1 t1.length k1, t1⟩ (mustP rfl (prB_true.2 rfl))
  · intro v M' nx' E' ρ' w' z hk h1 h2 h3 h4 h5
    obtain ⟨G', g1, g2, g3⟩ := h4.holds
    refine ⟨z, G', rfl, g1, g2, ?_⟩
    have := prB_true.1 hk
    subst this
    simpa [den] using h5.symm
set_option maxRecDepth 100000 in
theorem lifted (os : Os) (started : os.Started) (H : Type) (enc : TypeId × Value → H) :
    ReturnsInHanded {} Try.checked os 5 .any (Rows.rollOneSpec.pre6 enc Try.prog Try.f5 Rows.rollOneRow.domain false) (Rows.rollOneSpec.post enc Try.prog Try.f5 false true false false) := by
  refine returnsInHanded_of_change (C := Try.checked) own started (by kernel_rfl) Try.func5
    (ChangeSpec.witness6 (enc := enc) (C := Try.checked) false ⟨#[], #[.int .i64 0, .slice none 0 0], []⟩ 8 (by kernel_rfl) (by kernel_rfl) (by kernel_rfl) (by kernel_rfl)) ?_
  intro W base args ds gs before hval0 hW hcnd _
  have hval : ∀ (j : Nat) t v, Try.f5.params[j]? = some t → args[j]? = some v → Value.okWide Try.prog W .any base t v := hval0
  have hW' := hW
  obtain ⟨p, q, hA0, hV, rfl, hfz, hnd⟩ := hW
  have hA : DataW.TrodAll enc Try.prog W 0 (fun _ => true) true Try.f5.params.toList args.toList ds p := hA0
  rw [Try.params5] at hA hval
  obtain ⟨v0, vs0, d0, ds0, p0, q0, hargs, rfl, rfl, h0, r0⟩ := trodAll_cons hA
  obtain ⟨v1, vs1, d1, ds1, p1, q1, rfl, rfl, rfl, h1, r1⟩ := trodAll_cons r0
  obtain ⟨rfl, rfl, rfl⟩ := trodAll_nil r1
  obtain rfl : args = #[v0, v1] := by cases args; simp_all
  obtain ⟨rfl, rfl⟩ := trodVars_none hV
  obtain ⟨a0, rfl, rfl, rfl, w0⟩ := open_int Try.underlying3 (hval 0 3 v0 rfl rfl) h0
  obtain ⟨b1, len1, cap1, rfl⟩ := okWide_slice Try.underlying69 (hval 1 69 v1 rfl rfl)
  have j1 := h1
  have lt1 : ∀ x ∈ p1, x.block < W.heap.size := by obtain ⟨m, hm⟩ := j1; exact DataW.trod_lt m _ _ _ hm
  obtain ⟨fuel1, hf1⟩ := h1
  obtain ⟨ao1, ca1, t1, hc1, hr1⟩ := open_S hf1
  simp only [Value.cells, List.cons.injEq, Value.slice.injEq, and_true] at hc1
  obtain ⟨rfl, rfl, rfl⟩ := hc1
  clear hA0 hval0
  simp only [List.append_nil] at hW'
  refine (walk a0 b1 cap1 t1 W hr1).mono fun e W2 ⟨v, G2, he, hG, hh, hv⟩ => ?_
  subst he; subst hv
  have bel : Below W.heap.size W W2 := Holds.below hG hh
  exact ⟨_, rfl, _, _, _, [], _, [], hW', trodAll_mk1 (shut_bool Try.underlying4 _), (trodAll_cons_mk (shut_int Try.underlying3 w0) (trodAll_cons_mk (Below.trod laidOut (by kernel_rfl) (of_decide_eq_true (by kernel_rfl)) j1 bel lt1) trodAll_mk0)), rfl, bel.frame _, fun h => by cases h⟩
theorem over : Rows.rollOneRow.holds Try.pinned (OpenSpec.ofChange Rows.rollOneSpec) :=
  OpenClaim.holds_of_wide 5 Try.f5 rfl rfl rfl rfl rfl rfl rfl ⟨rfl, rfl, rfl, rfl, rfl⟩ rfl rfl rfl rfl rfl (by kernel_rfl) Try.func5 (by kernel_rfl)
    (of_decide_eq_true (by kernel_rfl)) (by unfold Func.isWrapper; first | (rw [if_pos (by decide +kernel)]; kernel_rfl) | (rw [if_neg (by decide +kernel)]; exact ⟨rfl, rfl⟩))
    (fun os started H enc _ => lifted os started H enc)
theorem holds : Rows.RollOneSaid := over
#print axioms holds
end Go.Proofs.Ytkahniffcehicaa.rollOne
