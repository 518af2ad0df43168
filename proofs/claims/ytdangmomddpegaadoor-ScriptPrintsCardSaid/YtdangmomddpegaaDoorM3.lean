/- Definitions and lemmas of the proof, without a condition of their own. -/
import Derived.Test.YtdangmomddpegaaDoorM2
import Derived.KernelRfl
namespace Go.Proofs.Tryd
open Go Go.RowKit Go.Sy
open Go.Eng hiding allB
set_option maxRecDepth 1000000
set_option linter.unusedVariables false
set_option maxHeartbeats 4000000
def ft_li3 : XF := .mk 39 (.one 2) (.seq (g_ 1 [p_ 0 2 (.mv (.c (.bool false)))]) (.seq (g_ 1 [p_ 0 3 (.mv (i_ 3000))]) (.seq (.seq (g_ 1 [p_ 0 4 (.mv (i_ 0))]) (.block 2 (.pre [.can 0 [0, 3, 4], .up 3, .up 4, .can 0 [0, 3, 4]] (.inv 0 (.aft (.seq (.seq (g_ 12 [p_ 0 5 (m_ 4), p_ 1 6 (m_ 0), p_ 2 7 (k_ 6), p_ 3 8 (.bin 3 0 (.t 5) (.t 7)), p_ 4 9 (m_ 8), pg_ 5 10 9 true (m_ 4), pg_ 6 11 9 true (.bin 3 0 (.t 10) (i_ 300)), p_ 7 12 (.pick (.t 9) (.t 11) (.c (.bool false))), p_ 8 13 (m_ 12), pg_ 9 14 13 true (m_ 3), pg_ 10 15 13 true (.bin 3 3 (.t 14) (i_ 0)), p_ 11 16 (.pick (.t 13) (.t 15) (.c (.bool false)))]) (.cond (.t 16) .skip (.exit 2))) (.seq (.block 3 (h_ 19 [p_ 0 19 (m_ 3), p_ 1 20 (.bin 0 1 (.t 19) (i_ 3)), p_ 2 21 (m_ 0), p_ 3 22 (m_ 4), p_ 4 23 (.ixs 5 (.t 21) (.t 22)), p_ 5 24 (f_ 2 23), r_ 6 25 (l_ 24), p_ 7 26 (.len 0 (.t 25)), p_ 8 27 (.mx false (.t 26) (i_ 4000)), p_ 9 28 (.bin 0 1 (.t 20) (.t 27)), p_ 10 29 (m_ 0), p_ 11 30 (m_ 4), p_ 12 31 (.ixs 5 (.t 29) (.t 30)), p_ 13 32 (f_ 3 31), r_ 14 33 (l_ 32), p_ 15 34 (.len 0 (.t 33)), p_ 16 35 (.mx false (.t 34) (i_ 4000)), p_ 17 36 (.bin 0 1 (.t 28) (.t 35)), p_ 18 3 (m_ 36)])) (g_ 3 [p_ 0 17 (m_ 4), p_ 1 18 (.bin 0 0 (.t 17) (i_ 1)), p_ 2 4 (m_ 18)]))) [(0, [.can 0 [0, 3, 4]]), (2, [.can 0 [3]])]))))) (.seq (g_ 3 [p_ 0 37 (m_ 3), p_ 1 38 (.bin 3 3 (.t 37) (i_ 0)), p_ 2 2 (m_ 38)]) .ret))))
theorem ft_li3_ok : chkF Tryd.prog 38 ft_li3 = true := by kernel_rfl
structure A_l_li3 where
  h : Value
  l : List PtR
  left : Int
  i : Int
structure R_l_li3 where
  left : Int
def po_l_li3 (p : A_l_li3) (r : R_l_li3) : Prop := -9000 ≤ r.left ∧ r.left ≤ 3000
noncomputable def I_l_li3 (p : A_l_li3) : IL := ((.cons 4 (.sy (.int 0 p.i)) (.cons 3 (.sy (.int 0 p.left)) (.cons 0 (.sy (.imm p.h 5 PtR p.l encP)) .nil))), .leaf, 0)
noncomputable def out_l_li3 (p : A_l_li3) (K : KC) : Bool := allB fun r : R_l_li3 => iP (po_l_li3 p r) (K 2 (.cons 3 (.sy (.int 0 r.left)) .nil) .leaf 0) true
def pre_l_li3 (p : A_l_li3) : Prop := -9000 ≤ p.left ∧ p.left ≤ 3000 ∧ 0 ≤ p.i ∧ p.i ≤ (p.l.length : Int)
theorem fin_l_li3 {p : A_l_li3} {K : KC} (hK : out_l_li3 p K = true) (r : R_l_li3) (h : po_l_li3 p r) : K 2 (.cons 3 (.sy (.int 0 r.left)) .nil) .leaf 0 = true := ifB_use h (allB_ok hK r)
noncomputable def sp_l_li3 (p : A_l_li3) (K : KC) : Bool := must (prB (pre_l_li3 p)) (out_l_li3 p K)
noncomputable def lp_li3 : LpF := fun j S M nx K => (Bool.rec (false) (exB fun p : A_l_li3 => must (prB ((S, M, nx) = I_l_li3 p)) (sp_l_li3 p K)) (Nat.beq j 0))
def mu_l_li3 (p : A_l_li3) : Nat := ((p.l.length : Int) - p.i).toNat
theorem bk_l_li3 {p q : A_l_li3} {K : KC} {s : IL} (hm : mu_l_li3 q < mu_l_li3 p) (hp : pre_l_li3 q) (hK : out_l_li3 q K = true) (e : s = I_l_li3 q) : (exB fun q => mP (s = I_l_li3 q ∧ mu_l_li3 q < mu_l_li3 p) (sp_l_li3 q K)) = true := exB_mk q (mustP ⟨e, hm⟩ (mustP hp hK))
def bd_l_li3 : XC := (.aft (.seq (.seq (g_ 12 [p_ 0 5 (m_ 4), p_ 1 6 (m_ 0), p_ 2 7 (k_ 6), p_ 3 8 (.bin 3 0 (.t 5) (.t 7)), p_ 4 9 (m_ 8), pg_ 5 10 9 true (m_ 4), pg_ 6 11 9 true (.bin 3 0 (.t 10) (i_ 300)), p_ 7 12 (.pick (.t 9) (.t 11) (.c (.bool false))), p_ 8 13 (m_ 12), pg_ 9 14 13 true (m_ 3), pg_ 10 15 13 true (.bin 3 3 (.t 14) (i_ 0)), p_ 11 16 (.pick (.t 13) (.t 15) (.c (.bool false)))]) (.cond (.t 16) .skip (.exit 2))) (.seq (.block 3 (h_ 19 [p_ 0 19 (m_ 3), p_ 1 20 (.bin 0 1 (.t 19) (i_ 3)), p_ 2 21 (m_ 0), p_ 3 22 (m_ 4), p_ 4 23 (.ixs 5 (.t 21) (.t 22)), p_ 5 24 (f_ 2 23), r_ 6 25 (l_ 24), p_ 7 26 (.len 0 (.t 25)), p_ 8 27 (.mx false (.t 26) (i_ 4000)), p_ 9 28 (.bin 0 1 (.t 20) (.t 27)), p_ 10 29 (m_ 0), p_ 11 30 (m_ 4), p_ 12 31 (.ixs 5 (.t 29) (.t 30)), p_ 13 32 (f_ 3 31), r_ 14 33 (l_ 32), p_ 15 34 (.len 0 (.t 33)), p_ 16 35 (.mx false (.t 34) (i_ 4000)), p_ 17 36 (.bin 0 1 (.t 28) (.t 35)), p_ 18 3 (m_ 36)])) (g_ 3 [p_ 0 17 (m_ 4), p_ 1 18 (.bin 0 0 (.t 17) (i_ 1)), p_ 2 4 (m_ 18)]))) [(0, [.can 0 [0, 3, 4]]), (2, [.can 0 [3]])])
theorem vb_l_li3 (p : A_l_li3) (K : KC) (hpre : pre_l_li3 p) (hK : out_l_li3 p K = true) : (codeX (cfT nat_knows) lp_li3 600 bd_l_li3 (I_l_li3 p).1 (I_l_li3 p).2.1 (I_l_li3 p).2.2 (fun e S M nx => Nat.casesOn e (exB fun q : A_l_li3 => must (prB ((S, M, nx) = I_l_li3 q ∧ mu_l_li3 q < mu_l_li3 p)) (sp_l_li3 q K)) (fun e2 => K (Nat.succ e2) S M nx))) = true := by
  refine Eq.trans (b := (let z0 : Bool := (K 2 (.cons 3 (.sy (.int 0 p.left)) .nil) .leaf 0); iP (p.i < (p.l.length : Int)) (iP (p.i < (300 : Int)) (iP ((0 : Int) ≤ p.left) (mP (InR 0 (p.left - (3 : Int))) (mP (0 ≤ p.i ∧ p.i < (p.l.length : Int)) (allB fun x1 : PtR => iP (p.l[p.i.toNat]? = some x1) (mP (InR 0 ((p.left - (3 : Int)) - (min (x1.key.length : Int) (4000 : Int)))) (mP (0 ≤ p.i ∧ p.i < (p.l.length : Int)) (allB fun x2 : PtR => iP (p.l[p.i.toNat]? = some x2) (mP (InR 0 (((p.left - (3 : Int)) - (min (x1.key.length : Int) (4000 : Int))) - (min (x2.val.length : Int) (4000 : Int)))) (mP (InR 0 (p.i + (1 : Int))) (exB fun q1 : A_l_li3 => mP (((.cons 4 (.sy (.int 0 (p.i + (1 : Int)))) (.cons 3 (.sy (.int 0 (((p.left - (3 : Int)) - (min (x1.key.length : Int) (4000 : Int))) - (min (x2.val.length : Int) (4000 : Int))))) (.cons 0 (.sy (.imm p.h 5 PtR p.l encP)) .nil))), .leaf, 0) = I_l_li3 q1 ∧ mu_l_li3 q1 < mu_l_li3 p) (sp_l_li3 q1 K)))) true))) true))) z0) z0) z0)) (by kernel_rfl) ?_
  dsimp only [pre_l_li3] at hpre
  obtain ⟨g0, g1, g2, g3⟩ := hpre
  refine iI (fun hc1 => ?_) (fun hc1 => ?_)
  refine iI (fun hc2 => ?_) (fun hc2 => ?_)
  refine iI (fun hc3 => ?_) (fun hc3 => ?_)
  refine mI (by simp only [InR] ; omega) (mI (by first | omega | (constructor <;> omega)) ?_)
  refine allB_mk (fun x1 => ?_)
  refine iI (fun hi4 => ?_) (fun _ => rfl)
  refine mI (by simp only [InR] ; omega) (mI (by first | omega | (constructor <;> omega)) ?_)
  refine allB_mk (fun x2 => ?_)
  refine iI (fun hi5 => ?_) (fun _ => rfl)
  refine mI (by simp only [InR] ; omega) (mI (by simp only [InR] ; omega) ?_)
  exact bk_l_li3 (q := ⟨p.h, p.l, ((p.left - (3 : Int)) - (min (x1.key.length : Int) (4000 : Int))) - (min (x2.val.length : Int) (4000 : Int)), p.i + (1 : Int)⟩) (by dsimp only [mu_l_li3] ; omega) (by dsimp only [pre_l_li3] ; omega) hK rfl
  exact fin_l_li3 hK ⟨p.left⟩ (by dsimp only [po_l_li3] <;> omega)
  exact fin_l_li3 hK ⟨p.left⟩ (by dsimp only [po_l_li3] <;> omega)
  exact fin_l_li3 hK ⟨p.left⟩ (by dsimp only [po_l_li3] <;> omega)
theorem lo_l_li3 : LpOk Tryd.prog 39 0 lp_li3 true 0 bd_l_li3 := by
  exact lp_of (lf := 600) ts_mix (cfT_ok nat_knows_ok) (by rfl) I_l_li3 mu_l_li3 sp_l_li3 (fun b j x h => by cases h) (fun S M nx K h => by obtain ⟨p, h⟩ := exB_ok h; exact ⟨p, (mustP_ok h).1, (mustP_ok h).2⟩) (fun p K h => vb_l_li3 p K (mustP_ok h).1 (mustP_ok h).2)
structure A_li3 where
  h : Value
  l : List PtR
structure R_li3 where
  q : Prop
noncomputable def I_li3 (p : A_li3) : IE := ([.sy (.imm p.h 5 PtR p.l encP)], .leaf, 0)
noncomputable def out_li3 (p : A_li3) (K : KE) : Bool := allB fun r : R_li3 => K (.sy (.bool r.q)) .leaf 0
theorem vf_li3 (p : A_li3) (K : KE) (hK : out_li3 p K = true) : (funE 0 (cfT nat_knows) lp_li3 600 ft_li3 (I_li3 p).1 (I_li3 p).2.1 (I_li3 p).2.2 K) = true := by
  refine Eq.trans (b := (useC (((.cons 4 (.sy (.int 0 0)) (.cons 3 (.sy (.int 0 3000)) (.cons 0 (.sy (.imm p.h 5 PtR p.l encP)) .nil))), .leaf, 0)) I_l_li3 pre_l_li3 po_l_li3 fun p1 r1 => K (.sy (.bool ((0 : Int) ≤ r1.left))) .leaf 0)) (by kernel_rfl) ?_
  refine callPR (⟨p.h, p.l, (3000 : Int), (0 : Int)⟩ : A_l_li3) rfl (by (try dsimp only [pre_l_li3]) ; omega) fun r1 hi1 => ?_
  dsimp only [po_l_li3] at hi1
  exact allB_ok hK (⟨(0 : Int) ≤ r1.left⟩ : R_li3)
noncomputable def nat_li3 := natC nat_knows 0 (esOf I_li3 out_li3) 38 [(0, 23)]
theorem nat_li3_ok : NatsOk Tryd.prog nat_li3 := natC_ok (natE_said (f := 38) (k := 0) (lp := lp_li3) (lf := 600) ts_mix (cfT_ok nat_knows_ok) ft_li3_ok (by rfl) (fun b j x h => (mem_step lo_l_li3 (fun h => (by cases h)) h)) fun p K h => vf_li3 p K h) nat_knows_ok
def ft_li24 : XF := .mk 37 (.one 4) (.aft (.seq (g_ 1 [p_ 0 4 (.mv (.c (.bool false)))]) (.seq (.seq (g_ 1 [p_ 0 5 (.mv (i_ 0))]) (.block 2 (.pre [.can 0 [0, 1, 5], .up 5, .can 0 [0, 1, 5]] (.inv 0 (.aft (.seq (.seq (g_ 9 [p_ 0 6 (m_ 5), p_ 1 7 (m_ 0), p_ 2 8 (k_ 7), p_ 3 9 (.bin 3 0 (.t 6) (.t 8)), p_ 4 10 (m_ 9), pg_ 5 11 10 true (m_ 5), pg_ 6 12 10 true (m_ 1), pg_ 7 13 10 true (.bin 3 0 (.t 11) (.t 12)), p_ 8 14 (.pick (.t 10) (.t 13) (.c (.bool false)))]) (.cond (.t 14) .skip (.exit 2))) (.seq (.block 3 (.seq (g_ 16 [p_ 0 17 (m_ 0), p_ 1 18 (m_ 5), p_ 2 19 (.ixs 9 (.t 17) (.t 18)), p_ 3 20 (f_ 8 19), r_ 4 21 (l_ 20), p_ 5 22 (k_ 21), p_ 6 23 (.bin 3 2 (.t 22) (i_ 10)), p_ 7 24 (m_ 23), pg_ 8 25 24 false (m_ 0), pg_ 9 26 24 false (m_ 5), pg_ 10 27 24 false (.ixs 9 (.t 25) (.t 26)), pg_ 11 28 24 false (f_ 8 27), rg_ 12 29 24 false (l_ 28), cg_ 13 30 24 false 38 [.t 29], pg_ 14 31 24 false (.un 0 (.t 30)), p_ 15 32 (.pick (.t 24) (.c (.bool true)) (.t 31))]) (.cond (.t 32) (.seq (g_ 1 [p_ 0 4 (.mv (.c (.bool false)))]) .ret) .skip))) (g_ 3 [p_ 0 15 (m_ 5), p_ 1 16 (.bin 0 0 (.t 15) (i_ 1)), p_ 2 5 (m_ 16)]))) [(0, [.can 0 [0, 1, 5]]), (1, [.can 0 [4]]), (2, [.can 0 [0, 1]])]))))) (.seq (g_ 5 [p_ 0 33 (m_ 0), p_ 1 34 (k_ 33), p_ 2 35 (m_ 1), p_ 3 36 (.bin 3 1 (.t 34) (.t 35)), p_ 4 4 (m_ 36)]) .ret))) [(0, [.up 4]), (1, [.up 4])])
theorem ft_li24_ok : chkF Tryd.prog 15 ft_li24 = true := by kernel_rfl
structure A_l_li24 where
  h : Value
  l : List OpR
  i : Int
def po_l_li24 (p : A_l_li24) : Prop := p.l.length ≤ 60 → okO p.l
noncomputable def I_l_li24 (p : A_l_li24) : IL := ((.cons 5 (.sy (.int 0 p.i)) (.cons 1 (.int 0 (.ofNat 60)) (.cons 0 (.sy (.imm p.h 9 OpR p.l encO)) .nil))), .leaf, 0)
noncomputable def out_l_li24 (p : A_l_li24) (K : KC) : Bool := must (iP (po_l_li24 p) (K 2 (.cons 1 (.int 0 (.ofNat 60)) (.cons 0 (.sy (.imm p.h 9 OpR p.l encO)) .nil)) .leaf 0) true) (K 1 (.cons 4 (.bool false) .nil) .leaf 0)
def pre_l_li24 (p : A_l_li24) : Prop := 0 ≤ p.i ∧ p.i ≤ (p.l.length : Int) ∧ p.i ≤ 60 ∧ okU p.l p.i
noncomputable def sp_l_li24 (p : A_l_li24) (K : KC) : Bool := must (prB (pre_l_li24 p)) (out_l_li24 p K)
noncomputable def lp_li24 : LpF := fun j S M nx K => (Bool.rec (false) (exB fun p : A_l_li24 => must (prB ((S, M, nx) = I_l_li24 p)) (sp_l_li24 p K)) (Nat.beq j 0))
def mu_l_li24 (p : A_l_li24) : Nat := ((p.l.length : Int) - p.i).toNat
theorem bk_l_li24 {p q : A_l_li24} {K : KC} {s : IL} (hm : mu_l_li24 q < mu_l_li24 p) (hp : pre_l_li24 q) (hK : out_l_li24 q K = true) (e : s = I_l_li24 q) : (exB fun q => mP (s = I_l_li24 q ∧ mu_l_li24 q < mu_l_li24 p) (sp_l_li24 q K)) = true := exB_mk q (mustP ⟨e, hm⟩ (mustP hp hK))
def bd_l_li24 : XC := (.aft (.seq (.seq (g_ 9 [p_ 0 6 (m_ 5), p_ 1 7 (m_ 0), p_ 2 8 (k_ 7), p_ 3 9 (.bin 3 0 (.t 6) (.t 8)), p_ 4 10 (m_ 9), pg_ 5 11 10 true (m_ 5), pg_ 6 12 10 true (m_ 1), pg_ 7 13 10 true (.bin 3 0 (.t 11) (.t 12)), p_ 8 14 (.pick (.t 10) (.t 13) (.c (.bool false)))]) (.cond (.t 14) .skip (.exit 2))) (.seq (.block 3 (.seq (g_ 16 [p_ 0 17 (m_ 0), p_ 1 18 (m_ 5), p_ 2 19 (.ixs 9 (.t 17) (.t 18)), p_ 3 20 (f_ 8 19), r_ 4 21 (l_ 20), p_ 5 22 (k_ 21), p_ 6 23 (.bin 3 2 (.t 22) (i_ 10)), p_ 7 24 (m_ 23), pg_ 8 25 24 false (m_ 0), pg_ 9 26 24 false (m_ 5), pg_ 10 27 24 false (.ixs 9 (.t 25) (.t 26)), pg_ 11 28 24 false (f_ 8 27), rg_ 12 29 24 false (l_ 28), cg_ 13 30 24 false 38 [.t 29], pg_ 14 31 24 false (.un 0 (.t 30)), p_ 15 32 (.pick (.t 24) (.c (.bool true)) (.t 31))]) (.cond (.t 32) (.seq (g_ 1 [p_ 0 4 (.mv (.c (.bool false)))]) .ret) .skip))) (g_ 3 [p_ 0 15 (m_ 5), p_ 1 16 (.bin 0 0 (.t 15) (i_ 1)), p_ 2 5 (m_ 16)]))) [(0, [.can 0 [0, 1, 5]]), (1, [.can 0 [4]]), (2, [.can 0 [0, 1]])])
theorem vb_l_li24 (p : A_l_li24) (K : KC) (hpre : pre_l_li24 p) (hK : out_l_li24 p K = true) : (codeX (cfT nat_li3) lp_li24 600 bd_l_li24 (I_l_li24 p).1 (I_l_li24 p).2.1 (I_l_li24 p).2.2 (fun e S M nx => Nat.casesOn e (exB fun q : A_l_li24 => must (prB ((S, M, nx) = I_l_li24 q ∧ mu_l_li24 q < mu_l_li24 p)) (sp_l_li24 q K)) (fun e2 => K (Nat.succ e2) S M nx))) = true := by
  refine Eq.trans (b := (let z0 : Bool := (K 2 (.cons 1 (.int 0 (.ofNat 60)) (.cons 0 (.sy (.imm p.h 9 OpR p.l encO)) .nil)) .leaf 0); iP (p.i < (p.l.length : Int)) (iP (p.i < (60 : Int)) (mP (0 ≤ p.i ∧ p.i < (p.l.length : Int)) (allB fun x1 : OpR => iP (p.l[p.i.toNat]? = some x1) (iP ((10 : Int) < (x1.ps.length : Int)) (K 1 (.cons 4 (.bool false) .nil) .leaf 0) (mP (0 ≤ p.i ∧ p.i < (p.l.length : Int)) (allB fun x2 : OpR => iP (p.l[p.i.toNat]? = some x2) (exB fun p1 : A_li3 => mP (([.sy (.imm x2.hp 5 PtR x2.ps encP)], .leaf, 0) = I_li3 p1) (allB fun r1 : R_li3 => iP (¬ r1.q) (K 1 (.cons 4 (.bool false) .nil) .leaf 0) (mP (InR 0 (p.i + (1 : Int))) (exB fun q1 : A_l_li24 => mP (((.cons 5 (.sy (.int 0 (p.i + (1 : Int)))) (.cons 1 (.int 0 (.ofNat 60)) (.cons 0 (.sy (.imm p.h 9 OpR p.l encO)) .nil))), .leaf, 0) = I_l_li24 q1 ∧ mu_l_li24 q1 < mu_l_li24 p) (sp_l_li24 q1 K))))) true))) true)) z0) z0)) (by kernel_rfl) ?_
  obtain ⟨hK0, hKr0⟩ := must_ok hK
  have hK1 := hKr0
  dsimp only [pre_l_li24] at hpre
  obtain ⟨g0, g1, g2, g3⟩ := hpre
  refine iI (fun hc1 => ?_) (fun hc1 => ?_)
  refine iI (fun hc2 => ?_) (fun hc2 => ?_)
  refine mI (by first | omega | (constructor <;> omega)) ?_
  refine allB_mk (fun x1 => ?_)
  refine iI (fun hi3 => ?_) (fun _ => rfl)
  refine iI (fun hc4 => ?_) (fun hc4 => ?_)
  exact hK1
  refine mI (by first | omega | (constructor <;> omega)) ?_
  refine allB_mk (fun x2 => ?_)
  refine iI (fun hi5 => ?_) (fun _ => rfl)
  refine exB_mk (⟨x2.hp, x2.ps⟩ : A_li3) (mI rfl ?_)
  refine allB_mk (fun r1 => ?_)
  refine iI (fun hc6 => ?_) (fun hc6 => ?_)
  exact hK1
  refine mI (by simp only [InR] ; omega) ?_
  exact bk_l_li24 (q := ⟨p.h, p.l, p.i + (1 : Int)⟩) (by dsimp only [mu_l_li24] ; omega) (by dsimp only [pre_l_li24] ; exact ⟨by omega, by omega, by omega, okU_step g3 (by omega) (by assumption : p.l[p.i.toNat]? = some x1) (by omega)⟩) (by first | exact hK | exact must_mk hK0 hK1) rfl
  exact ifB_use (show p.l.length ≤ 60 → okO p.l from (by intro z ; exact okO_of g3 z (by omega))) hK0
  exact ifB_use (show p.l.length ≤ 60 → okO p.l from (by intro z ; exact okO_of g3 z (by omega))) hK0
theorem lo_l_li24 : LpOk Tryd.prog 37 0 lp_li24 true 0 bd_l_li24 := by
  exact lp_of (lf := 600) ts_mix (cfT_ok nat_li3_ok) (by rfl) I_l_li24 mu_l_li24 sp_l_li24 (fun b j x h => by cases h) (fun S M nx K h => by obtain ⟨p, h⟩ := exB_ok h; exact ⟨p, (mustP_ok h).1, (mustP_ok h).2⟩) (fun p K h => vb_l_li24 p K (mustP_ok h).1 (mustP_ok h).2)
structure A_li24 where
  h : Value
  l : List OpR
structure R_li24 where
  q : Prop
def po_li24 (p : A_li24) (r : R_li24) : Prop := r.q → okO p.l
noncomputable def I_li24 (p : A_li24) : IE := ([.sy (.imm p.h 9 OpR p.l encO), .int 0 (.ofNat 60)], .leaf, 0)
noncomputable def out_li24 (p : A_li24) (K : KE) : Bool := allB fun r : R_li24 => iP (po_li24 p r) (K (.sy (.bool r.q)) .leaf 0) true
theorem fin_li24 {p : A_li24} {K : KE} (hK : out_li24 p K = true) (r : R_li24) (h : po_li24 p r) : K (.sy (.bool r.q)) .leaf 0 = true := ifB_use h (allB_ok hK r)
theorem vf_li24 (p : A_li24) (K : KE) (hK : out_li24 p K = true) : (funE 0 (cfT nat_li3) lp_li24 600 ft_li24 (I_li24 p).1 (I_li24 p).2.1 (I_li24 p).2.2 K) = true := by
  refine Eq.trans (b := (exB fun p1 : A_l_li24 => mP (((.cons 5 (.sy (.int 0 0)) (.cons 1 (.int 0 (.ofNat 60)) (.cons 0 (.sy (.imm p.h 9 OpR p.l encO)) .nil))), .leaf, 0) = I_l_li24 p1) (mP (pre_l_li24 p1) (must (iP (po_l_li24 p1) (K (.sy (.bool ((p1.l.length : Int) ≤ (60 : Int)))) .leaf 0) true) (K (.sy (.bool (false = true))) .leaf 0))))) (by kernel_rfl) ?_
  refine callP (⟨p.h, p.l, (0 : Int)⟩ : A_l_li24) rfl (by (try dsimp only [pre_l_li24]) ; exact ⟨by omega, by omega, by omega, fun j x h1 h2 => by omega⟩) ?_
  refine must_mk ?_ ?_
  refine iI (p := p.l.length ≤ 60 → okO p.l) (fun hi1 => ?_) (fun _ => rfl)
  exact fin_li24 hK ⟨(p.l.length : Int) ≤ (60 : Int)⟩ (by dsimp only [po_li24] <;> (first | (intro z ; cases z ; done) | (intro z ; exact hi1 (by omega))))
  exact fin_li24 hK ⟨false = true⟩ (by dsimp only [po_li24] <;> (first | (intro z ; cases z ; done) | (intro z ; exact hi0 (by omega))))
noncomputable def nat_li24 := natC nat_li3 0 (esOf I_li24 out_li24) 15 [(0, 23)]
theorem nat_li24_ok : NatsOk Tryd.prog nat_li24 := natC_ok (natE_said (f := 15) (k := 0) (lp := lp_li24) (lf := 600) ts_mix (cfT_ok nat_li3_ok) ft_li24_ok (by rfl) (fun b j x h => (mem_step lo_l_li24 (fun h => (by cases h)) h)) fun p K h => vf_li24 p K h) nat_li3_ok
def ft_parts : XF := .mk 20 (.one 2) (.aft (.seq (g_ 1 [p_ 0 2 (.mv (.c .nilS))]) (.seq (g_ 1 [p_ 0 3 (.mv (.c .nilS))]) (.seq (.seq (g_ 1 [p_ 0 4 (.mv (i_ 0))]) (.block 2 (.pre [.can 0 [0, 3, 4], .born 3 100 5 PtR encP, .up 4, .can 0 [0, 3, 4]] (.inv 0 (.aft (.seq (.seq (g_ 4 [p_ 0 5 (m_ 4), p_ 1 6 (m_ 0), p_ 2 7 (k_ 6), p_ 3 8 (.bin 3 0 (.t 5) (.t 7))]) (.cond (.t 8) .skip (.exit 2))) (.seq (.block 3 (g_ 9 [p_ 0 11 (m_ 3), p_ 1 12 (m_ 0), p_ 2 13 (m_ 4), p_ 3 14 (.ixs 5 (.t 12) (.t 13)), r_ 4 15 (.ld true 5 (.t 14)), c_ 5 16 71 [.t 15], e_ 6 17 (.bsl 100 5 1 [.int 1 (.ofNat 0), .int 1 (.ofNat 0), .str [], .str [], .int 0 (.ofNat 0)] [(0, 5)] [.t 16]), e_ 7 18 (.app 100 5 48 (.t 11) (.t 17)), p_ 8 3 (m_ 18)])) (g_ 3 [p_ 0 9 (m_ 4), p_ 1 10 (.bin 0 0 (.t 9) (i_ 1)), p_ 2 4 (m_ 10)]))) [(0, [.can 0 [0, 3, 4]]), (2, [.can 0 [3]])]))))) (.seq (g_ 2 [p_ 0 19 (m_ 3), p_ 1 2 (m_ 19)]) .ret)))) [(0, [.frz 2]), (1, [.frz 2])])
theorem ft_parts_ok : chkF Tryd.prog 46 ft_parts = true := by kernel_rfl
structure A_l_parts where
  h : Value
  l : List PtR
  o : List PtR
  i : Int
structure R_l_parts where
  o : List PtR
def po_l_parts (p : A_l_parts) (r : R_l_parts) : Prop := r.o = p.l
noncomputable def I_l_parts (p : A_l_parts) : IL := ((.cons 4 (.sy (.int 0 p.i)) (.cons 3 (.sy (.prow 0 p.o.length)) (.cons 0 (.sy (.imm p.h 5 PtR p.l encP)) .nil))), (.node .leaf (some (.prow 100 5 PtR p.o encP)) .leaf), 1)
noncomputable def out_l_parts (p : A_l_parts) (K : KC) : Bool := allB fun r : R_l_parts => iP (po_l_parts p r) (K 2 (.cons 3 (.sy (.prow 0 r.o.length)) .nil) (.node .leaf (some (.prow 100 5 PtR r.o encP)) .leaf) 1) true
def pre_l_parts (p : A_l_parts) : Prop := p.l.length ≤ 10 ∧ 0 ≤ p.i ∧ p.i ≤ (p.l.length : Int) ∧ (p.o.length : Int) = p.i ∧ p.o = p.l.take p.i.toNat
theorem fin_l_parts {p : A_l_parts} {K : KC} (hK : out_l_parts p K = true) (r : R_l_parts) (h : po_l_parts p r) : K 2 (.cons 3 (.sy (.prow 0 r.o.length)) .nil) (.node .leaf (some (.prow 100 5 PtR r.o encP)) .leaf) 1 = true := ifB_use h (allB_ok hK r)
noncomputable def sp_l_parts (p : A_l_parts) (K : KC) : Bool := must (prB (pre_l_parts p)) (out_l_parts p K)
noncomputable def lp_parts : LpF := fun j S M nx K => (Bool.rec (false) (exB fun p : A_l_parts => must (prB ((S, M, nx) = I_l_parts p)) (sp_l_parts p K)) (Nat.beq j 0))
def mu_l_parts (p : A_l_parts) : Nat := ((p.l.length : Int) - p.i).toNat
theorem bk_l_parts {p q : A_l_parts} {K : KC} {s : IL} (hm : mu_l_parts q < mu_l_parts p) (hp : pre_l_parts q) (hK : out_l_parts q K = true) (e : s = I_l_parts q) : (exB fun q => mP (s = I_l_parts q ∧ mu_l_parts q < mu_l_parts p) (sp_l_parts q K)) = true := exB_mk q (mustP ⟨e, hm⟩ (mustP hp hK))
def bd_l_parts : XC := (.aft (.seq (.seq (g_ 4 [p_ 0 5 (m_ 4), p_ 1 6 (m_ 0), p_ 2 7 (k_ 6), p_ 3 8 (.bin 3 0 (.t 5) (.t 7))]) (.cond (.t 8) .skip (.exit 2))) (.seq (.block 3 (g_ 9 [p_ 0 11 (m_ 3), p_ 1 12 (m_ 0), p_ 2 13 (m_ 4), p_ 3 14 (.ixs 5 (.t 12) (.t 13)), r_ 4 15 (.ld true 5 (.t 14)), c_ 5 16 71 [.t 15], e_ 6 17 (.bsl 100 5 1 [.int 1 (.ofNat 0), .int 1 (.ofNat 0), .str [], .str [], .int 0 (.ofNat 0)] [(0, 5)] [.t 16]), e_ 7 18 (.app 100 5 48 (.t 11) (.t 17)), p_ 8 3 (m_ 18)])) (g_ 3 [p_ 0 9 (m_ 4), p_ 1 10 (.bin 0 0 (.t 9) (i_ 1)), p_ 2 4 (m_ 10)]))) [(0, [.can 0 [0, 3, 4]]), (2, [.can 0 [3]])])
theorem vb_l_parts (p : A_l_parts) (K : KC) (hpre : pre_l_parts p) (hK : out_l_parts p K = true) : (codeX (cfT nat_li24) lp_parts 600 bd_l_parts (I_l_parts p).1 (I_l_parts p).2.1 (I_l_parts p).2.2 (fun e S M nx => Nat.casesOn e (exB fun q : A_l_parts => must (prB ((S, M, nx) = I_l_parts q ∧ mu_l_parts q < mu_l_parts p)) (sp_l_parts q K)) (fun e2 => K (Nat.succ e2) S M nx))) = true := by
  refine Eq.trans (b := (iP (p.i < (p.l.length : Int)) (mP (0 ≤ p.i ∧ p.i < (p.l.length : Int)) (allB fun x1 : PtR => iP (p.l[p.i.toNat]? = some x1) (mP (p.o.length = p.o.length) (exB fun m1 : List PtR => mP (rowsR (m1.map encP) [[.sint 1 x1.g, .sint 1 x1.k, .sstr x1.key, .sstr x1.val, .sint 0 x1.n]]) (mP (limP 48 (p.o.length + m1.length)) (mP (InR 0 (p.i + (1 : Int))) (exB fun q1 : A_l_parts => mP (((.cons 4 (.sy (.int 0 (p.i + (1 : Int)))) (.cons 3 (.sy (.prow 0 ((p.o ++ m1).length))) (.cons 0 (.sy (.imm p.h 5 PtR p.l encP)) .nil))), (.node .leaf (some (.prow 100 5 PtR (p.o ++ m1) encP)) .leaf), 1) = I_l_parts q1 ∧ mu_l_parts q1 < mu_l_parts p) (sp_l_parts q1 K)))))) true)) (K 2 (.cons 3 (.sy (.prow 0 p.o.length)) .nil) (.node .leaf (some (.prow 100 5 PtR p.o encP)) .leaf) 1))) (by kernel_rfl) ?_
  dsimp only [pre_l_parts] at hpre
  obtain ⟨g0, g1, g2, g3, g4⟩ := hpre
  refine iI (fun hc1 => ?_) (fun hc1 => ?_)
  refine mI (by first | omega | (constructor <;> omega)) ?_
  refine allB_mk (fun x1 => ?_)
  refine iI (fun hi2 => ?_) (fun _ => rfl)
  refine mI (rfl) ?_
  refine exB_mk [x1] ?_
  refine mI (show rowsR ([x1].map encP) [[.sint 1 x1.g, .sint 1 x1.k, .sstr x1.key, .sstr x1.val, .sint 0 x1.n]] from ⟨⟨.inl rfl, ⟨.inl rfl, ⟨.inl rfl, ⟨.inl rfl, ⟨.inl rfl, trivial⟩⟩⟩⟩⟩, trivial⟩) (mI (by (try dsimp only) ; (first | omega | (simp [limP] <;> omega))) (mI (by simp only [InR] ; omega) ?_))
  exact bk_l_parts (q := ⟨p.h, p.l, p.o ++ [x1], p.i + (1 : Int)⟩) (by dsimp only [mu_l_parts] ; omega) (by dsimp only [pre_l_parts] ; exact ⟨g0, by omega, by omega, by simp ; omega, by rw [show (p.i + 1).toNat = p.i.toNat + 1 by omega, ← tk (by assumption : p.l[p.i.toNat]? = some _), g4]⟩) hK rfl
  exact fin_l_parts hK ⟨p.o⟩ (by dsimp only [po_l_parts] <;> (rw [g4] ; exact List.take_of_length_le (by omega)))
theorem lo_l_parts : LpOk Tryd.prog 20 0 lp_parts true 0 bd_l_parts := by
  exact lp_of (lf := 600) ts_mix (cfT_ok nat_li24_ok) (by rfl) I_l_parts mu_l_parts sp_l_parts (fun b j x h => by cases h) (fun S M nx K h => by obtain ⟨p, h⟩ := exB_ok h; exact ⟨p, (mustP_ok h).1, (mustP_ok h).2⟩) (fun p K h => vb_l_parts p K (mustP_ok h).1 (mustP_ok h).2)
structure A_parts where
  h : Value
  l : List PtR
structure R_parts where
  h : Value
  o : List PtR
def po_parts (p : A_parts) (r : R_parts) : Prop := r.o = p.l
noncomputable def I_parts (p : A_parts) : IE := ([.sy (.imm p.h 5 PtR p.l encP)], .leaf, 0)
noncomputable def out_parts (p : A_parts) (K : KE) : Bool := allB fun r : R_parts => iP (po_parts p r) (K (.sy (.imm r.h 5 PtR r.o encP)) .leaf 0) true
def pre_parts (p : A_parts) : Prop := p.l.length ≤ 10
theorem fin_parts {p : A_parts} {K : KE} (hK : out_parts p K = true) (r : R_parts) (h : po_parts p r) : K (.sy (.imm r.h 5 PtR r.o encP)) .leaf 0 = true := ifB_use h (allB_ok hK r)
theorem vf_parts (p : A_parts) (K : KE) (hpre : pre_parts p) (hK : out_parts p K = true) : (funE 0 (cfT nat_li24) lp_parts 600 ft_parts (I_parts p).1 (I_parts p).2.1 (I_parts p).2.2 K) = true := by
  refine Eq.trans (b := (useC (((.cons 4 (.sy (.int 0 0)) (.cons 3 (.sy (.prow 0 0)) (.cons 0 (.sy (.imm p.h 5 PtR p.l encP)) .nil))), (.node .leaf (some (.prow 100 5 PtR ([] : List PtR) encP)) .leaf), 1)) I_l_parts pre_l_parts po_l_parts fun p1 r1 => mP (r1.o.length = r1.o.length) (allB fun h1 : Value => K (.sy (.imm h1 5 PtR r1.o encP)) .leaf 0))) (by kernel_rfl) ?_
  dsimp only [pre_parts] at hpre
  refine callPR (⟨p.h, p.l, ([] : List PtR), (0 : Int)⟩ : A_l_parts) rfl (by (try dsimp only [pre_l_parts]) ; exact ⟨by assumption, by omega, by omega, by simp, by simp⟩) fun r1 hi1 => ?_
  dsimp only [po_l_parts] at hi1
  refine mI (rfl) ?_
  refine allB_mk (fun h1 => ?_)
  exact fin_parts hK ⟨h1, r1.o⟩ (by dsimp only [po_parts] <;> exact hi1)
noncomputable def nat_parts := natC nat_li24 0 (esOf I_parts (spP pre_parts out_parts)) 46 [(0, 23)]
theorem nat_parts_ok : NatsOk Tryd.prog nat_parts := natC_ok (natE_said (f := 46) (k := 0) (lp := lp_parts) (lf := 600) ts_mix (cfT_ok nat_li24_ok) ft_parts_ok (by rfl) (fun b j x h => (mem_step lo_l_parts (fun h => (by cases h)) h)) fun p K h => vf_parts p K (mustP_ok h).1 (mustP_ok h).2) nat_li24_ok
def ft_rparts : XF := .mk 20 (.one 2) (.aft (.seq (g_ 1 [p_ 0 2 (.mv (.c .nilS))]) (.seq (g_ 1 [p_ 0 3 (.mv (.c .nilS))]) (.seq (.seq (g_ 1 [p_ 0 4 (.mv (i_ 0))]) (.block 2 (.pre [.can 0 [0, 3, 4], .born 3 111 5 PtR encP, .up 4, .can 0 [0, 3, 4]] (.inv 0 (.aft (.seq (.seq (g_ 4 [p_ 0 5 (m_ 4), p_ 1 6 (m_ 0), p_ 2 7 (k_ 6), p_ 3 8 (.bin 3 0 (.t 5) (.t 7))]) (.cond (.t 8) .skip (.exit 2))) (.seq (.block 3 (g_ 9 [p_ 0 11 (m_ 3), p_ 1 12 (m_ 0), p_ 2 13 (m_ 4), p_ 3 14 (.ixs 5 (.t 12) (.t 13)), r_ 4 15 (.ld true 5 (.t 14)), c_ 5 16 64 [.t 15], e_ 6 17 (.bsl 111 5 1 [.int 1 (.ofNat 0), .int 1 (.ofNat 0), .str [], .str [], .int 0 (.ofNat 0)] [(0, 5)] [.t 16]), e_ 7 18 (.app 111 5 48 (.t 11) (.t 17)), p_ 8 3 (m_ 18)])) (g_ 3 [p_ 0 9 (m_ 4), p_ 1 10 (.bin 0 0 (.t 9) (i_ 1)), p_ 2 4 (m_ 10)]))) [(0, [.can 0 [0, 3, 4]]), (2, [.can 0 [3]])]))))) (.seq (g_ 2 [p_ 0 19 (m_ 3), p_ 1 2 (m_ 19)]) .ret)))) [(0, [.frz 2]), (1, [.frz 2])])
theorem ft_rparts_ok : chkF Tryd.prog 37 ft_rparts = true := by kernel_rfl
structure A_l_rparts where
  h : Value
  l : List PtR
  o : List PtR
  i : Int
structure R_l_rparts where
  o : List PtR
def po_l_rparts (p : A_l_rparts) (r : R_l_rparts) : Prop := r.o = p.l
noncomputable def I_l_rparts (p : A_l_rparts) : IL := ((.cons 4 (.sy (.int 0 p.i)) (.cons 3 (.sy (.prow 0 p.o.length)) (.cons 0 (.sy (.imm p.h 5 PtR p.l encP)) .nil))), (.node .leaf (some (.prow 111 5 PtR p.o encP)) .leaf), 1)
noncomputable def out_l_rparts (p : A_l_rparts) (K : KC) : Bool := allB fun r : R_l_rparts => iP (po_l_rparts p r) (K 2 (.cons 3 (.sy (.prow 0 r.o.length)) .nil) (.node .leaf (some (.prow 111 5 PtR r.o encP)) .leaf) 1) true
def pre_l_rparts (p : A_l_rparts) : Prop := p.l.length ≤ 10 ∧ 0 ≤ p.i ∧ p.i ≤ (p.l.length : Int) ∧ (p.o.length : Int) = p.i ∧ p.o = p.l.take p.i.toNat
theorem fin_l_rparts {p : A_l_rparts} {K : KC} (hK : out_l_rparts p K = true) (r : R_l_rparts) (h : po_l_rparts p r) : K 2 (.cons 3 (.sy (.prow 0 r.o.length)) .nil) (.node .leaf (some (.prow 111 5 PtR r.o encP)) .leaf) 1 = true := ifB_use h (allB_ok hK r)
noncomputable def sp_l_rparts (p : A_l_rparts) (K : KC) : Bool := must (prB (pre_l_rparts p)) (out_l_rparts p K)
noncomputable def lp_rparts : LpF := fun j S M nx K => (Bool.rec (false) (exB fun p : A_l_rparts => must (prB ((S, M, nx) = I_l_rparts p)) (sp_l_rparts p K)) (Nat.beq j 0))
def mu_l_rparts (p : A_l_rparts) : Nat := ((p.l.length : Int) - p.i).toNat
theorem bk_l_rparts {p q : A_l_rparts} {K : KC} {s : IL} (hm : mu_l_rparts q < mu_l_rparts p) (hp : pre_l_rparts q) (hK : out_l_rparts q K = true) (e : s = I_l_rparts q) : (exB fun q => mP (s = I_l_rparts q ∧ mu_l_rparts q < mu_l_rparts p) (sp_l_rparts q K)) = true := exB_mk q (mustP ⟨e, hm⟩ (mustP hp hK))
def bd_l_rparts : XC := (.aft (.seq (.seq (g_ 4 [p_ 0 5 (m_ 4), p_ 1 6 (m_ 0), p_ 2 7 (k_ 6), p_ 3 8 (.bin 3 0 (.t 5) (.t 7))]) (.cond (.t 8) .skip (.exit 2))) (.seq (.block 3 (g_ 9 [p_ 0 11 (m_ 3), p_ 1 12 (m_ 0), p_ 2 13 (m_ 4), p_ 3 14 (.ixs 5 (.t 12) (.t 13)), r_ 4 15 (.ld true 5 (.t 14)), c_ 5 16 64 [.t 15], e_ 6 17 (.bsl 111 5 1 [.int 1 (.ofNat 0), .int 1 (.ofNat 0), .str [], .str [], .int 0 (.ofNat 0)] [(0, 5)] [.t 16]), e_ 7 18 (.app 111 5 48 (.t 11) (.t 17)), p_ 8 3 (m_ 18)])) (g_ 3 [p_ 0 9 (m_ 4), p_ 1 10 (.bin 0 0 (.t 9) (i_ 1)), p_ 2 4 (m_ 10)]))) [(0, [.can 0 [0, 3, 4]]), (2, [.can 0 [3]])])
theorem vb_l_rparts (p : A_l_rparts) (K : KC) (hpre : pre_l_rparts p) (hK : out_l_rparts p K = true) : (codeX (cfT nat_parts) lp_rparts 600 bd_l_rparts (I_l_rparts p).1 (I_l_rparts p).2.1 (I_l_rparts p).2.2 (fun e S M nx => Nat.casesOn e (exB fun q : A_l_rparts => must (prB ((S, M, nx) = I_l_rparts q ∧ mu_l_rparts q < mu_l_rparts p)) (sp_l_rparts q K)) (fun e2 => K (Nat.succ e2) S M nx))) = true := by
  refine Eq.trans (b := (iP (p.i < (p.l.length : Int)) (mP (0 ≤ p.i ∧ p.i < (p.l.length : Int)) (allB fun x1 : PtR => iP (p.l[p.i.toNat]? = some x1) (mP (p.o.length = p.o.length) (exB fun m1 : List PtR => mP (rowsR (m1.map encP) [[.sint 1 x1.g, .sint 1 x1.k, .sstr x1.key, .sstr x1.val, .sint 0 x1.n]]) (mP (limP 48 (p.o.length + m1.length)) (mP (InR 0 (p.i + (1 : Int))) (exB fun q1 : A_l_rparts => mP (((.cons 4 (.sy (.int 0 (p.i + (1 : Int)))) (.cons 3 (.sy (.prow 0 ((p.o ++ m1).length))) (.cons 0 (.sy (.imm p.h 5 PtR p.l encP)) .nil))), (.node .leaf (some (.prow 111 5 PtR (p.o ++ m1) encP)) .leaf), 1) = I_l_rparts q1 ∧ mu_l_rparts q1 < mu_l_rparts p) (sp_l_rparts q1 K)))))) true)) (K 2 (.cons 3 (.sy (.prow 0 p.o.length)) .nil) (.node .leaf (some (.prow 111 5 PtR p.o encP)) .leaf) 1))) (by kernel_rfl) ?_
  dsimp only [pre_l_rparts] at hpre
  obtain ⟨g0, g1, g2, g3, g4⟩ := hpre
  refine iI (fun hc1 => ?_) (fun hc1 => ?_)
  refine mI (by first | omega | (constructor <;> omega)) ?_
  refine allB_mk (fun x1 => ?_)
  refine iI (fun hi2 => ?_) (fun _ => rfl)
  refine mI (rfl) ?_
  refine exB_mk [x1] ?_
  refine mI (show rowsR ([x1].map encP) [[.sint 1 x1.g, .sint 1 x1.k, .sstr x1.key, .sstr x1.val, .sint 0 x1.n]] from ⟨⟨.inl rfl, ⟨.inl rfl, ⟨.inl rfl, ⟨.inl rfl, ⟨.inl rfl, trivial⟩⟩⟩⟩⟩, trivial⟩) (mI (by (try dsimp only) ; (first | omega | (simp [limP] <;> omega))) (mI (by simp only [InR] ; omega) ?_))
  exact bk_l_rparts (q := ⟨p.h, p.l, p.o ++ [x1], p.i + (1 : Int)⟩) (by dsimp only [mu_l_rparts] ; omega) (by dsimp only [pre_l_rparts] ; exact ⟨g0, by omega, by omega, by simp ; omega, by rw [show (p.i + 1).toNat = p.i.toNat + 1 by omega, ← tk (by assumption : p.l[p.i.toNat]? = some _), g4]⟩) hK rfl
  exact fin_l_rparts hK ⟨p.o⟩ (by dsimp only [po_l_rparts] <;> (rw [g4] ; exact List.take_of_length_le (by omega)))
theorem lo_l_rparts : LpOk Tryd.prog 20 0 lp_rparts true 0 bd_l_rparts := by
  exact lp_of (lf := 600) ts_mix (cfT_ok nat_parts_ok) (by rfl) I_l_rparts mu_l_rparts sp_l_rparts (fun b j x h => by cases h) (fun S M nx K h => by obtain ⟨p, h⟩ := exB_ok h; exact ⟨p, (mustP_ok h).1, (mustP_ok h).2⟩) (fun p K h => vb_l_rparts p K (mustP_ok h).1 (mustP_ok h).2)
structure A_rparts where
  h : Value
  l : List PtR
structure R_rparts where
  h : Value
  o : List PtR
def po_rparts (p : A_rparts) (r : R_rparts) : Prop := r.o = p.l
noncomputable def I_rparts (p : A_rparts) : IE := ([.sy (.imm p.h 5 PtR p.l encP)], .leaf, 0)
noncomputable def out_rparts (p : A_rparts) (K : KE) : Bool := allB fun r : R_rparts => iP (po_rparts p r) (K (.sy (.imm r.h 5 PtR r.o encP)) .leaf 0) true
def pre_rparts (p : A_rparts) : Prop := p.l.length ≤ 10
theorem fin_rparts {p : A_rparts} {K : KE} (hK : out_rparts p K = true) (r : R_rparts) (h : po_rparts p r) : K (.sy (.imm r.h 5 PtR r.o encP)) .leaf 0 = true := ifB_use h (allB_ok hK r)
theorem vf_rparts (p : A_rparts) (K : KE) (hpre : pre_rparts p) (hK : out_rparts p K = true) : (funE 0 (cfT nat_parts) lp_rparts 600 ft_rparts (I_rparts p).1 (I_rparts p).2.1 (I_rparts p).2.2 K) = true := by
  refine Eq.trans (b := (useC (((.cons 4 (.sy (.int 0 0)) (.cons 3 (.sy (.prow 0 0)) (.cons 0 (.sy (.imm p.h 5 PtR p.l encP)) .nil))), (.node .leaf (some (.prow 111 5 PtR ([] : List PtR) encP)) .leaf), 1)) I_l_rparts pre_l_rparts po_l_rparts fun p1 r1 => mP (r1.o.length = r1.o.length) (allB fun h1 : Value => K (.sy (.imm h1 5 PtR r1.o encP)) .leaf 0))) (by kernel_rfl) ?_
  dsimp only [pre_rparts] at hpre
  refine callPR (⟨p.h, p.l, ([] : List PtR), (0 : Int)⟩ : A_l_rparts) rfl (by (try dsimp only [pre_l_rparts]) ; exact ⟨by assumption, by omega, by omega, by simp, by simp⟩) fun r1 hi1 => ?_
  dsimp only [po_l_rparts] at hi1
  refine mI (rfl) ?_
  refine allB_mk (fun h1 => ?_)
  exact fin_rparts hK ⟨h1, r1.o⟩ (by dsimp only [po_rparts] <;> exact hi1)
noncomputable def nat_rparts := natC nat_parts 0 (esOf I_rparts (spP pre_rparts out_rparts)) 37 [(0, 23)]
theorem nat_rparts_ok : NatsOk Tryd.prog nat_rparts := natC_ok (natE_said (f := 37) (k := 0) (lp := lp_rparts) (lf := 600) ts_mix (cfT_ok nat_parts_ok) ft_rparts_ok (by rfl) (fun b j x h => (mem_step lo_l_rparts (fun h => (by cases h)) h)) fun p K h => vf_rparts p K (mustP_ok h).1 (mustP_ok h).2) nat_parts_ok
def ft_conf : XF := .mk 46 (.cell 2 true 8) (.aft (.seq (g_ 2 [e_ 0 1 (.box 25 (.t 0)), e_ 1 2 (.al 36 [.nilS, .int 0 (.ofNat 0), .int 0 (.ofNat 0), .int 0 (.ofNat 0), .int 0 (.ofNat 0), .int 0 (.ofNat 0), .int 0 (.ofNat 0), .int 4 (.ofNat 0)])]) (.seq (g_ 17 [p_ 0 6 (f_ 1 1), r_ 1 7 (l_ 6), p_ 2 8 (f_ 2 1), r_ 3 9 (l_ 8), p_ 4 10 (f_ 3 1), r_ 5 11 (l_ 10), p_ 6 12 (f_ 4 1), r_ 7 13 (l_ 12), p_ 8 14 (f_ 5 1), r_ 9 15 (l_ 14), p_ 10 16 (f_ 6 1), r_ 11 17 (l_ 16), p_ 12 18 (f_ 7 1), r_ 13 19 (l_ 18), p_ 14 20 (.bld [.nilS, .int 0 (.ofNat 0), .int 0 (.ofNat 0), .int 0 (.ofNat 0), .int 0 (.ofNat 0), .int 0 (.ofNat 0), .int 0 (.ofNat 0), .int 4 (.ofNat 0)] [(1, 1), (2, 1), (3, 1), (4, 1), (5, 1), (6, 1), (7, 1)] [.t 7, .t 9, .t 11, .t 13, .t 15, .t 17, .t 19]), e_ 15 3 (.al 36 [.nilS, .int 0 (.ofNat 0), .int 0 (.ofNat 0), .int 0 (.ofNat 0), .int 0 (.ofNat 0), .int 0 (.ofNat 0), .int 0 (.ofNat 0), .int 4 (.ofNat 0)]), e0_ 16 (.st 8 (.t 3) (.t 20))]) (.seq (.seq (g_ 1 [p_ 0 4 (.mv (i_ 0))]) (.block 2 (.pre [.can 0 [1, 2, 3, 4], .cell 2 0 0 73 3 GrR encG, .up 4, .can 0 [1, 2, 3, 4]] (.inv 0 (.aft (.seq (.seq (g_ 5 [p_ 0 21 (m_ 4), p_ 1 22 (f_ 0 1), r_ 2 23 (l_ 22), p_ 3 24 (k_ 23), p_ 4 25 (.bin 3 0 (.t 21) (.t 24))]) (.cond (.t 25) .skip (.exit 2))) (.seq (.block 3 (.seq (g_ 7 [p_ 0 28 (f_ 0 1), r_ 1 29 (l_ 28), p_ 2 30 (m_ 4), p_ 3 31 (.ixs 3 (.t 29) (.t 30)), r_ 4 32 (.ld true 3 (.t 31)), e_ 5 5 (.al 83 [.int 0 (.ofNat 0), .int 0 (.ofNat 0), .bool false]), e0_ 6 (.st 3 (.t 5) (.t 32))]) (g_ 13 [p_ 0 33 (f_ 0 3), r_ 1 34 (l_ 33), p_ 2 35 (f_ 0 5), r_ 3 36 (l_ 35), p_ 4 37 (f_ 1 5), r_ 5 38 (l_ 37), p_ 6 39 (f_ 2 5), r_ 7 40 (l_ 39), p_ 8 41 (.bld [.int 0 (.ofNat 0), .int 0 (.ofNat 0), .bool false] [(0, 1), (1, 1), (2, 1)] [.t 36, .t 38, .t 40]), e_ 9 42 (.bsl 73 3 1 [.int 0 (.ofNat 0), .int 0 (.ofNat 0), .bool false] [(0, 3)] [.t 41]), e_ 10 43 (.app 73 3 24 (.t 34) (.t 42)), p_ 11 44 (f_ 0 3), e0_ 12 (.st 1 (.t 44) (.t 43))]))) (g_ 3 [p_ 0 26 (m_ 4), p_ 1 27 (.bin 0 0 (.t 26) (i_ 1)), p_ 2 4 (m_ 27)]))) [(0, [.can 0 [1, 2, 3, 4]]), (2, [.can 0 [2, 3]])]))))) (.seq (g_ 2 [r_ 0 45 (.ld true 8 (.t 3)), e0_ 1 (.st 8 (.t 2) (.t 45))]) .ret)))) [(0, [.frzc 0 0 0]), (1, [.frzc 0 0 0])])
theorem ft_conf_ok : chkF Tryd.prog 22 ft_conf = true := by kernel_rfl
structure A_l_conf where
  h : Value
  l : List GrR
  clients : Int
  window : Int
  deadline : Int
  pace : Int
  again : Int
  bag : Int
  first : Int
  o : List GrR
  i : Int
structure R_l_conf where
  o : List GrR
def po_l_conf (p : A_l_conf) (r : R_l_conf) : Prop := r.o = p.l
noncomputable def I_l_conf (p : A_l_conf) : IL := ((.cons 4 (.sy (.int 0 p.i)) (.cons 3 (.ptr 2 0) (.cons 2 (.ptr 1 0) (.cons 1 (.ptr 0 0) .nil)))), (.node (.node (.node .leaf (some (.prow 73 3 GrR p.o encG)) .leaf) (some (.blk false 36 8 [[.nilS, .int 0 (.ofNat 0), .int 0 (.ofNat 0), .int 0 (.ofNat 0), .int 0 (.ofNat 0), .int 0 (.ofNat 0), .int 0 (.ofNat 0), .int 4 (.ofNat 0)]])) .leaf) (some (.blk false 25 8 [[.sy (.imm p.h 3 GrR p.l encG), .sy (.int 0 p.clients), .sy (.int 0 p.window), .sy (.int 0 p.deadline), .sy (.int 0 p.pace), .sy (.int 0 p.again), .sy (.int 0 p.bag), .sy (.int 4 p.first)]])) (.node .leaf (some (.blk false 36 8 [[.sy (.prow 3 p.o.length), .sy (.int 0 p.clients), .sy (.int 0 p.window), .sy (.int 0 p.deadline), .sy (.int 0 p.pace), .sy (.int 0 p.again), .sy (.int 0 p.bag), .sy (.int 4 p.first)]])) .leaf)), 4)
noncomputable def out_l_conf (p : A_l_conf) (K : KC) : Bool := allB fun r : R_l_conf => iP (po_l_conf p r) (K 2 (.cons 3 (.ptr 1 0) (.cons 2 (.ptr 0 0) .nil)) (.node (.node .leaf (some (.blk false 36 8 [[.sy (.prow 2 r.o.length), .sy (.int 0 p.clients), .sy (.int 0 p.window), .sy (.int 0 p.deadline), .sy (.int 0 p.pace), .sy (.int 0 p.again), .sy (.int 0 p.bag), .sy (.int 4 p.first)]])) .leaf) (some (.blk false 36 8 [[.nilS, .int 0 (.ofNat 0), .int 0 (.ofNat 0), .int 0 (.ofNat 0), .int 0 (.ofNat 0), .int 0 (.ofNat 0), .int 0 (.ofNat 0), .int 4 (.ofNat 0)]])) (.node .leaf (some (.prow 73 3 GrR r.o encG)) .leaf)) 3) true
def pre_l_conf (p : A_l_conf) : Prop := p.l.length ≤ 10 ∧ 0 ≤ p.i ∧ p.i ≤ (p.l.length : Int) ∧ (p.o.length : Int) = p.i ∧ p.o = p.l.take p.i.toNat
theorem fin_l_conf {p : A_l_conf} {K : KC} (hK : out_l_conf p K = true) (r : R_l_conf) (h : po_l_conf p r) : K 2 (.cons 3 (.ptr 1 0) (.cons 2 (.ptr 0 0) .nil)) (.node (.node .leaf (some (.blk false 36 8 [[.sy (.prow 2 r.o.length), .sy (.int 0 p.clients), .sy (.int 0 p.window), .sy (.int 0 p.deadline), .sy (.int 0 p.pace), .sy (.int 0 p.again), .sy (.int 0 p.bag), .sy (.int 4 p.first)]])) .leaf) (some (.blk false 36 8 [[.nilS, .int 0 (.ofNat 0), .int 0 (.ofNat 0), .int 0 (.ofNat 0), .int 0 (.ofNat 0), .int 0 (.ofNat 0), .int 0 (.ofNat 0), .int 4 (.ofNat 0)]])) (.node .leaf (some (.prow 73 3 GrR r.o encG)) .leaf)) 3 = true := ifB_use h (allB_ok hK r)
noncomputable def sp_l_conf (p : A_l_conf) (K : KC) : Bool := must (prB (pre_l_conf p)) (out_l_conf p K)
noncomputable def lp_conf : LpF := fun j S M nx K => (Bool.rec (false) (exB fun p : A_l_conf => must (prB ((S, M, nx) = I_l_conf p)) (sp_l_conf p K)) (Nat.beq j 0))
def mu_l_conf (p : A_l_conf) : Nat := ((p.l.length : Int) - p.i).toNat
theorem bk_l_conf {p q : A_l_conf} {K : KC} {s : IL} (hm : mu_l_conf q < mu_l_conf p) (hp : pre_l_conf q) (hK : out_l_conf q K = true) (e : s = I_l_conf q) : (exB fun q => mP (s = I_l_conf q ∧ mu_l_conf q < mu_l_conf p) (sp_l_conf q K)) = true := exB_mk q (mustP ⟨e, hm⟩ (mustP hp hK))
def bd_l_conf : XC := (.aft (.seq (.seq (g_ 5 [p_ 0 21 (m_ 4), p_ 1 22 (f_ 0 1), r_ 2 23 (l_ 22), p_ 3 24 (k_ 23), p_ 4 25 (.bin 3 0 (.t 21) (.t 24))]) (.cond (.t 25) .skip (.exit 2))) (.seq (.block 3 (.seq (g_ 7 [p_ 0 28 (f_ 0 1), r_ 1 29 (l_ 28), p_ 2 30 (m_ 4), p_ 3 31 (.ixs 3 (.t 29) (.t 30)), r_ 4 32 (.ld true 3 (.t 31)), e_ 5 5 (.al 83 [.int 0 (.ofNat 0), .int 0 (.ofNat 0), .bool false]), e0_ 6 (.st 3 (.t 5) (.t 32))]) (g_ 13 [p_ 0 33 (f_ 0 3), r_ 1 34 (l_ 33), p_ 2 35 (f_ 0 5), r_ 3 36 (l_ 35), p_ 4 37 (f_ 1 5), r_ 5 38 (l_ 37), p_ 6 39 (f_ 2 5), r_ 7 40 (l_ 39), p_ 8 41 (.bld [.int 0 (.ofNat 0), .int 0 (.ofNat 0), .bool false] [(0, 1), (1, 1), (2, 1)] [.t 36, .t 38, .t 40]), e_ 9 42 (.bsl 73 3 1 [.int 0 (.ofNat 0), .int 0 (.ofNat 0), .bool false] [(0, 3)] [.t 41]), e_ 10 43 (.app 73 3 24 (.t 34) (.t 42)), p_ 11 44 (f_ 0 3), e0_ 12 (.st 1 (.t 44) (.t 43))]))) (g_ 3 [p_ 0 26 (m_ 4), p_ 1 27 (.bin 0 0 (.t 26) (i_ 1)), p_ 2 4 (m_ 27)]))) [(0, [.can 0 [1, 2, 3, 4]]), (2, [.can 0 [2, 3]])])
theorem vb_l_conf (p : A_l_conf) (K : KC) (hpre : pre_l_conf p) (hK : out_l_conf p K = true) : (codeX (cfT nat_rparts) lp_conf 600 bd_l_conf (I_l_conf p).1 (I_l_conf p).2.1 (I_l_conf p).2.2 (fun e S M nx => Nat.casesOn e (exB fun q : A_l_conf => must (prB ((S, M, nx) = I_l_conf q ∧ mu_l_conf q < mu_l_conf p)) (sp_l_conf q K)) (fun e2 => K (Nat.succ e2) S M nx))) = true := by
  refine Eq.trans (b := (iP (p.i < (p.l.length : Int)) (mP (0 ≤ p.i ∧ p.i < (p.l.length : Int)) (allB fun x1 : GrR => iP (p.l[p.i.toNat]? = some x1) (mP (p.o.length = p.o.length) (exB fun m1 : List GrR => mP (rowsR (m1.map encG) [[.sint 0 x1.f, .sint 0 x1.s, .sbool x1.c]]) (mP (limP 24 (p.o.length + m1.length)) (mP (InR 0 (p.i + (1 : Int))) (exB fun q1 : A_l_conf => mP (((.cons 4 (.sy (.int 0 (p.i + (1 : Int)))) (.cons 3 (.ptr 2 0) (.cons 2 (.ptr 1 0) (.cons 1 (.ptr 0 0) .nil)))), (.node (.node (.node .leaf (some (.prow 73 3 GrR (p.o ++ m1) encG)) .leaf) (some (.blk false 36 8 [[.nilS, .int 0 (.ofNat 0), .int 0 (.ofNat 0), .int 0 (.ofNat 0), .int 0 (.ofNat 0), .int 0 (.ofNat 0), .int 0 (.ofNat 0), .int 4 (.ofNat 0)]])) .leaf) (some (.blk false 25 8 [[.sy (.imm p.h 3 GrR p.l encG), .sy (.int 0 p.clients), .sy (.int 0 p.window), .sy (.int 0 p.deadline), .sy (.int 0 p.pace), .sy (.int 0 p.again), .sy (.int 0 p.bag), .sy (.int 4 p.first)]])) (.node .leaf (some (.blk false 36 8 [[.sy (.prow 3 ((p.o ++ m1).length)), .sy (.int 0 p.clients), .sy (.int 0 p.window), .sy (.int 0 p.deadline), .sy (.int 0 p.pace), .sy (.int 0 p.again), .sy (.int 0 p.bag), .sy (.int 4 p.first)]])) .leaf)), 4) = I_l_conf q1 ∧ mu_l_conf q1 < mu_l_conf p) (sp_l_conf q1 K)))))) true)) (K 2 (.cons 3 (.ptr 1 0) (.cons 2 (.ptr 0 0) .nil)) (.node (.node .leaf (some (.blk false 36 8 [[.sy (.prow 2 p.o.length), .sy (.int 0 p.clients), .sy (.int 0 p.window), .sy (.int 0 p.deadline), .sy (.int 0 p.pace), .sy (.int 0 p.again), .sy (.int 0 p.bag), .sy (.int 4 p.first)]])) .leaf) (some (.blk false 36 8 [[.nilS, .int 0 (.ofNat 0), .int 0 (.ofNat 0), .int 0 (.ofNat 0), .int 0 (.ofNat 0), .int 0 (.ofNat 0), .int 0 (.ofNat 0), .int 4 (.ofNat 0)]])) (.node .leaf (some (.prow 73 3 GrR p.o encG)) .leaf)) 3))) (by kernel_rfl) ?_
  dsimp only [pre_l_conf] at hpre
  obtain ⟨g0, g1, g2, g3, g4⟩ := hpre
  refine iI (fun hc1 => ?_) (fun hc1 => ?_)
  refine mI (by first | omega | (constructor <;> omega)) ?_
  refine allB_mk (fun x1 => ?_)
  refine iI (fun hi2 => ?_) (fun _ => rfl)
  refine mI (rfl) ?_
  refine exB_mk [x1] ?_
  refine mI (show rowsR ([x1].map encG) [[.sint 0 x1.f, .sint 0 x1.s, .sbool x1.c]] from ⟨⟨.inl rfl, ⟨.inl rfl, ⟨.inl rfl, trivial⟩⟩⟩, trivial⟩) (mI (by (try dsimp only) ; (first | omega | (simp [limP] <;> omega))) (mI (by simp only [InR] ; omega) ?_))
  exact bk_l_conf (q := ⟨p.h, p.l, p.clients, p.window, p.deadline, p.pace, p.again, p.bag, p.first, p.o ++ [x1], p.i + (1 : Int)⟩) (by dsimp only [mu_l_conf] ; omega) (by dsimp only [pre_l_conf] ; exact ⟨g0, by omega, by omega, by simp ; omega, by rw [show (p.i + 1).toNat = p.i.toNat + 1 by omega, ← tk (by assumption : p.l[p.i.toNat]? = some _), g4]⟩) hK rfl
  exact fin_l_conf hK ⟨p.o⟩ (by dsimp only [po_l_conf] <;> (rw [g4] ; exact List.take_of_length_le (by omega)))
theorem lo_l_conf : LpOk Tryd.prog 46 0 lp_conf true 0 bd_l_conf := by
  exact lp_of (lf := 600) ts_mix (cfT_ok nat_rparts_ok) (by rfl) I_l_conf mu_l_conf sp_l_conf (fun b j x h => by cases h) (fun S M nx K h => by obtain ⟨p, h⟩ := exB_ok h; exact ⟨p, (mustP_ok h).1, (mustP_ok h).2⟩) (fun p K h => vb_l_conf p K (mustP_ok h).1 (mustP_ok h).2)
structure A_conf where
  h : Value
  l : List GrR
  clients : Int
  window : Int
  deadline : Int
  pace : Int
  again : Int
  bag : Int
  first : Int
structure R_conf where
  h : Value
  o : List GrR
def po_conf (p : A_conf) (r : R_conf) : Prop := r.o = p.l
noncomputable def I_conf (p : A_conf) : IE := ([.agg [.sy (.imm p.h 3 GrR p.l encG), .sy (.int 0 p.clients), .sy (.int 0 p.window), .sy (.int 0 p.deadline), .sy (.int 0 p.pace), .sy (.int 0 p.again), .sy (.int 0 p.bag), .sy (.int 4 p.first)]], .leaf, 0)
noncomputable def out_conf (p : A_conf) (K : KE) : Bool := allB fun r : R_conf => iP (po_conf p r) (K (.agg [.sy (.imm r.h 3 GrR r.o encG), .sy (.int 0 p.clients), .sy (.int 0 p.window), .sy (.int 0 p.deadline), .sy (.int 0 p.pace), .sy (.int 0 p.again), .sy (.int 0 p.bag), .sy (.int 4 p.first)]) .leaf 0) true
def pre_conf (p : A_conf) : Prop := p.l.length ≤ 10
theorem fin_conf {p : A_conf} {K : KE} (hK : out_conf p K = true) (r : R_conf) (h : po_conf p r) : K (.agg [.sy (.imm r.h 3 GrR r.o encG), .sy (.int 0 p.clients), .sy (.int 0 p.window), .sy (.int 0 p.deadline), .sy (.int 0 p.pace), .sy (.int 0 p.again), .sy (.int 0 p.bag), .sy (.int 4 p.first)]) .leaf 0 = true := ifB_use h (allB_ok hK r)
theorem vf_conf (p : A_conf) (K : KE) (hpre : pre_conf p) (hK : out_conf p K = true) : (funE 0 (cfT nat_rparts) lp_conf 600 ft_conf (I_conf p).1 (I_conf p).2.1 (I_conf p).2.2 K) = true := by
  refine Eq.trans (b := (mP ((.nilS : AV) = (.nilS : AV)) (useC (((.cons 4 (.sy (.int 0 0)) (.cons 3 (.ptr 2 0) (.cons 2 (.ptr 1 0) (.cons 1 (.ptr 0 0) .nil)))), (.node (.node (.node .leaf (some (.prow 73 3 GrR ([] : List GrR) encG)) .leaf) (some (.blk false 36 8 [[.nilS, .int 0 (.ofNat 0), .int 0 (.ofNat 0), .int 0 (.ofNat 0), .int 0 (.ofNat 0), .int 0 (.ofNat 0), .int 0 (.ofNat 0), .int 4 (.ofNat 0)]])) .leaf) (some (.blk false 25 8 [[.sy (.imm p.h 3 GrR p.l encG), .sy (.int 0 p.clients), .sy (.int 0 p.window), .sy (.int 0 p.deadline), .sy (.int 0 p.pace), .sy (.int 0 p.again), .sy (.int 0 p.bag), .sy (.int 4 p.first)]])) (.node .leaf (some (.blk false 36 8 [[.sy (.prow 3 0), .sy (.int 0 p.clients), .sy (.int 0 p.window), .sy (.int 0 p.deadline), .sy (.int 0 p.pace), .sy (.int 0 p.again), .sy (.int 0 p.bag), .sy (.int 4 p.first)]])) .leaf)), 4)) I_l_conf pre_l_conf po_l_conf fun p1 r1 => mP (r1.o.length = r1.o.length) (allB fun h1 : Value => mP ((.sy (.prow 2 r1.o.length) : AV) = (.sy (.prow 2 r1.o.length) : AV)) (K (.agg [.sy (.imm h1 3 GrR r1.o encG), .sy (.int 0 p1.clients), .sy (.int 0 p1.window), .sy (.int 0 p1.deadline), .sy (.int 0 p1.pace), .sy (.int 0 p1.again), .sy (.int 0 p1.bag), .sy (.int 4 p1.first)]) .leaf 0))))) (by kernel_rfl) ?_
  dsimp only [pre_conf] at hpre
  refine mI (rfl) ?_
  refine callPR (⟨p.h, p.l, p.clients, p.window, p.deadline, p.pace, p.again, p.bag, p.first, ([] : List GrR), (0 : Int)⟩ : A_l_conf) rfl (by (try dsimp only [pre_l_conf]) ; exact ⟨by assumption, by omega, by omega, by simp, by simp⟩) fun r1 hi1 => ?_
  dsimp only [po_l_conf] at hi1
  refine mI (rfl) ?_
  refine allB_mk (fun h1 => ?_)
  refine mI (rfl) ?_
  exact fin_conf hK ⟨h1, r1.o⟩ (by dsimp only [po_conf] <;> exact hi1)
noncomputable def nat_conf := natC nat_rparts 0 (esOf I_conf (spP pre_conf out_conf)) 22 [(0, 15)]
theorem nat_conf_ok : NatsOk Tryd.prog nat_conf := natC_ok (natE_said (f := 22) (k := 0) (lp := lp_conf) (lf := 600) ts_mix (cfT_ok nat_rparts_ok) ft_conf_ok (by rfl) (fun b j x h => (mem_step lo_l_conf (fun h => (by cases h)) h)) fun p K h => vf_conf p K (mustP_ok h).1 (mustP_ok h).2) nat_rparts_ok
def ft_own : XF := .mk 28 (.cell 2 true 9) (.aft (.seq (g_ 2 [e_ 0 1 (.box 28 (.t 0)), e_ 1 2 (.al 39 [.nilS, .int 0 (.ofNat 0), .int 0 (.ofNat 0), .int 0 (.ofNat 0), .int 0 (.ofNat 0), .int 0 (.ofNat 0), .int 0 (.ofNat 0), .int 4 (.ofNat 0), .nilS])]) (.seq (g_ 6 [p_ 0 5 (f_ 0 1), r_ 1 6 (.ld true 8 (.t 5)), c_ 2 7 22 [.t 6], p_ 3 8 (.bld [.nilS, .int 0 (.ofNat 0), .int 0 (.ofNat 0), .int 0 (.ofNat 0), .int 0 (.ofNat 0), .int 0 (.ofNat 0), .int 0 (.ofNat 0), .int 4 (.ofNat 0), .nilS] [(0, 8)] [.t 7]), e_ 4 3 (.al 39 [.nilS, .int 0 (.ofNat 0), .int 0 (.ofNat 0), .int 0 (.ofNat 0), .int 0 (.ofNat 0), .int 0 (.ofNat 0), .int 0 (.ofNat 0), .int 4 (.ofNat 0), .nilS]), e0_ 5 (.st 9 (.t 3) (.t 8))]) (.seq (.seq (g_ 1 [p_ 0 4 (.mv (i_ 0))]) (.block 2 (.pre [.can 0 [1, 2, 3, 4], .cell 2 0 8 52 9 OpR encO, .up 4, .can 0 [1, 2, 3, 4]] (.inv 0 (.aft (.seq (.seq (g_ 5 [p_ 0 9 (m_ 4), p_ 1 10 (f_ 8 1), r_ 2 11 (l_ 10), p_ 3 12 (k_ 11), p_ 4 13 (.bin 3 0 (.t 9) (.t 12))]) (.cond (.t 13) .skip (.exit 2))) (.seq (.block 3 (h_ 12 [p_ 0 16 (f_ 8 3), r_ 1 17 (l_ 16), p_ 2 18 (f_ 8 1), r_ 3 19 (l_ 18), p_ 4 20 (m_ 4), p_ 5 21 (.ixs 9 (.t 19) (.t 20)), r_ 6 22 (.ld true 9 (.t 21)), c_ 7 23 23 [.t 22], a_ 1 17 (l_ 16), e_ 8 24 (.bsl 52 9 1 [.int 0 (.ofNat 0), .int 0 (.ofNat 0), .int 0 (.ofNat 0), .int 0 (.ofNat 0), .int 0 (.ofNat 0), .int 0 (.ofNat 0), .int 3 (.ofNat 0), .int 1 (.ofNat 0), .nilS] [(0, 9)] [.t 23]), a_ 1 17 (l_ 16), e_ 9 25 (.app 52 9 80 (.t 17) (.t 24)), p_ 10 26 (f_ 8 3), e0_ 11 (.st 1 (.t 26) (.t 25))])) (g_ 3 [p_ 0 14 (m_ 4), p_ 1 15 (.bin 0 0 (.t 14) (i_ 1)), p_ 2 4 (m_ 15)]))) [(0, [.can 0 [1, 2, 3, 4]]), (2, [.can 0 [2, 3]])]))))) (.seq (g_ 2 [r_ 0 27 (.ld true 9 (.t 3)), e0_ 1 (.st 9 (.t 2) (.t 27))]) .ret)))) [(0, [.frzc 0 0 8]), (1, [.frzc 0 0 8])])
theorem ft_own_ok : chkF Tryd.prog 8 ft_own = true := by kernel_rfl
structure A_l_own where
  s : ScR
  hg : Value
  gs : List GrR
  o : List OpR
  i : Int
structure R_l_own where
  o : List OpR
def po_l_own (p : A_l_own) (r : R_l_own) : Prop := r.o.map opk = p.s.os.map opk
noncomputable def I_l_own (p : A_l_own) : IL := ((.cons 4 (.sy (.int 0 p.i)) (.cons 3 (.ptr 2 0) (.cons 2 (.ptr 1 0) (.cons 1 (.ptr 0 0) .nil)))), (.node (.node (.node .leaf (some (.prow 52 9 OpR p.o encO)) .leaf) (some (.blk false 39 9 [[.nilS, .int 0 (.ofNat 0), .int 0 (.ofNat 0), .int 0 (.ofNat 0), .int 0 (.ofNat 0), .int 0 (.ofNat 0), .int 0 (.ofNat 0), .int 4 (.ofNat 0), .nilS]])) .leaf) (some (.blk false 28 9 [[.sy (.imm p.s.hg 3 GrR p.s.gs encG), .sy (.int 0 p.s.clients), .sy (.int 0 p.s.window), .sy (.int 0 p.s.deadline), .sy (.int 0 p.s.pace), .sy (.int 0 p.s.again), .sy (.int 0 p.s.bag), .sy (.int 4 p.s.first), .sy (.imm p.s.ho 9 OpR p.s.os encO)]])) (.node .leaf (some (.blk false 39 9 [[.sy (.imm p.hg 3 GrR p.gs encG), .sy (.int 0 p.s.clients), .sy (.int 0 p.s.window), .sy (.int 0 p.s.deadline), .sy (.int 0 p.s.pace), .sy (.int 0 p.s.again), .sy (.int 0 p.s.bag), .sy (.int 4 p.s.first), .sy (.prow 3 p.o.length)]])) .leaf)), 4)
noncomputable def out_l_own (p : A_l_own) (K : KC) : Bool := allB fun r : R_l_own => iP (po_l_own p r) (K 2 (.cons 3 (.ptr 1 0) (.cons 2 (.ptr 0 0) .nil)) (.node (.node .leaf (some (.blk false 39 9 [[.sy (.imm p.hg 3 GrR p.gs encG), .sy (.int 0 p.s.clients), .sy (.int 0 p.s.window), .sy (.int 0 p.s.deadline), .sy (.int 0 p.s.pace), .sy (.int 0 p.s.again), .sy (.int 0 p.s.bag), .sy (.int 4 p.s.first), .sy (.prow 2 r.o.length)]])) .leaf) (some (.blk false 39 9 [[.nilS, .int 0 (.ofNat 0), .int 0 (.ofNat 0), .int 0 (.ofNat 0), .int 0 (.ofNat 0), .int 0 (.ofNat 0), .int 0 (.ofNat 0), .int 4 (.ofNat 0), .nilS]])) (.node .leaf (some (.prow 52 9 OpR r.o encO)) .leaf)) 3) true
def pre_l_own (p : A_l_own) : Prop := okO p.s.os ∧ 0 ≤ p.i ∧ p.i ≤ (p.s.os.length : Int) ∧ (p.o.length : Int) = p.i ∧ p.o.map opk = (p.s.os.take p.i.toNat).map opk
theorem fin_l_own {p : A_l_own} {K : KC} (hK : out_l_own p K = true) (r : R_l_own) (h : po_l_own p r) : K 2 (.cons 3 (.ptr 1 0) (.cons 2 (.ptr 0 0) .nil)) (.node (.node .leaf (some (.blk false 39 9 [[.sy (.imm p.hg 3 GrR p.gs encG), .sy (.int 0 p.s.clients), .sy (.int 0 p.s.window), .sy (.int 0 p.s.deadline), .sy (.int 0 p.s.pace), .sy (.int 0 p.s.again), .sy (.int 0 p.s.bag), .sy (.int 4 p.s.first), .sy (.prow 2 r.o.length)]])) .leaf) (some (.blk false 39 9 [[.nilS, .int 0 (.ofNat 0), .int 0 (.ofNat 0), .int 0 (.ofNat 0), .int 0 (.ofNat 0), .int 0 (.ofNat 0), .int 0 (.ofNat 0), .int 4 (.ofNat 0), .nilS]])) (.node .leaf (some (.prow 52 9 OpR r.o encO)) .leaf)) 3 = true := ifB_use h (allB_ok hK r)
noncomputable def sp_l_own (p : A_l_own) (K : KC) : Bool := must (prB (pre_l_own p)) (out_l_own p K)
noncomputable def lp_own : LpF := fun j S M nx K => (Bool.rec (false) (exB fun p : A_l_own => must (prB ((S, M, nx) = I_l_own p)) (sp_l_own p K)) (Nat.beq j 0))
def mu_l_own (p : A_l_own) : Nat := ((p.s.os.length : Int) - p.i).toNat
theorem bk_l_own {p q : A_l_own} {K : KC} {s : IL} (hm : mu_l_own q < mu_l_own p) (hp : pre_l_own q) (hK : out_l_own q K = true) (e : s = I_l_own q) : (exB fun q => mP (s = I_l_own q ∧ mu_l_own q < mu_l_own p) (sp_l_own q K)) = true := exB_mk q (mustP ⟨e, hm⟩ (mustP hp hK))
def bd_l_own : XC := (.aft (.seq (.seq (g_ 5 [p_ 0 9 (m_ 4), p_ 1 10 (f_ 8 1), r_ 2 11 (l_ 10), p_ 3 12 (k_ 11), p_ 4 13 (.bin 3 0 (.t 9) (.t 12))]) (.cond (.t 13) .skip (.exit 2))) (.seq (.block 3 (h_ 12 [p_ 0 16 (f_ 8 3), r_ 1 17 (l_ 16), p_ 2 18 (f_ 8 1), r_ 3 19 (l_ 18), p_ 4 20 (m_ 4), p_ 5 21 (.ixs 9 (.t 19) (.t 20)), r_ 6 22 (.ld true 9 (.t 21)), c_ 7 23 23 [.t 22], a_ 1 17 (l_ 16), e_ 8 24 (.bsl 52 9 1 [.int 0 (.ofNat 0), .int 0 (.ofNat 0), .int 0 (.ofNat 0), .int 0 (.ofNat 0), .int 0 (.ofNat 0), .int 0 (.ofNat 0), .int 3 (.ofNat 0), .int 1 (.ofNat 0), .nilS] [(0, 9)] [.t 23]), a_ 1 17 (l_ 16), e_ 9 25 (.app 52 9 80 (.t 17) (.t 24)), p_ 10 26 (f_ 8 3), e0_ 11 (.st 1 (.t 26) (.t 25))])) (g_ 3 [p_ 0 14 (m_ 4), p_ 1 15 (.bin 0 0 (.t 14) (i_ 1)), p_ 2 4 (m_ 15)]))) [(0, [.can 0 [1, 2, 3, 4]]), (2, [.can 0 [2, 3]])])
theorem vb_l_own (p : A_l_own) (K : KC) (hpre : pre_l_own p) (hK : out_l_own p K = true) : (codeX (cfT nat_conf) lp_own 600 bd_l_own (I_l_own p).1 (I_l_own p).2.1 (I_l_own p).2.2 (fun e S M nx => Nat.casesOn e (exB fun q : A_l_own => must (prB ((S, M, nx) = I_l_own q ∧ mu_l_own q < mu_l_own p)) (sp_l_own q K)) (fun e2 => K (Nat.succ e2) S M nx))) = true := by
  refine Eq.trans (b := (iP (p.i < (p.s.os.length : Int)) (mP (0 ≤ p.i ∧ p.i < (p.s.os.length : Int)) (allB fun x1 : OpR => iP (p.s.os[p.i.toNat]? = some x1) (useC (([.sy (.imm x1.hp 5 PtR x1.ps encP)], .leaf, 0)) I_parts pre_parts po_parts fun p1 r1 => mP (((.int 0 x1.kind) : SY) = (.int 0 x1.kind)) (mP (((.int 0 x1.x) : SY) = (.int 0 x1.x)) (mP (((.int 0 x1.y) : SY) = (.int 0 x1.y)) (mP (((.int 0 x1.i) : SY) = (.int 0 x1.i)) (mP (((.int 0 x1.at_) : SY) = (.int 0 x1.at_)) (mP (((.int 0 x1.mode) : SY) = (.int 0 x1.mode)) (mP (((.int 3 x1.mask) : SY) = (.int 3 x1.mask)) (mP (((.int 1 x1.grp) : SY) = (.int 1 x1.grp)) (mP (((.prow 3 p.o.length) : SY) = (.prow 3 p.o.length)) (mP (((.prow 3 p.o.length) : SY) = (.prow 3 p.o.length)) (mP (p.o.length = p.o.length) (exB fun m1 : List OpR => mP (rowsR (m1.map encO) [[.sint 0 x1.kind, .sint 0 x1.x, .sint 0 x1.y, .sint 0 x1.i, .sint 0 x1.at_, .sint 0 x1.mode, .sint 3 x1.mask, .sint 1 x1.grp, .imm r1.h 5 PtR r1.o encP]]) (mP (limP 80 (p.o.length + m1.length)) (mP (InR 0 (p.i + (1 : Int))) (exB fun q1 : A_l_own => mP (((.cons 4 (.sy (.int 0 (p.i + (1 : Int)))) (.cons 3 (.ptr 2 0) (.cons 2 (.ptr 1 0) (.cons 1 (.ptr 0 0) .nil)))), (.node (.node (.node .leaf (some (.prow 52 9 OpR (p.o ++ m1) encO)) .leaf) (some (.blk false 39 9 [[.nilS, .int 0 (.ofNat 0), .int 0 (.ofNat 0), .int 0 (.ofNat 0), .int 0 (.ofNat 0), .int 0 (.ofNat 0), .int 0 (.ofNat 0), .int 4 (.ofNat 0), .nilS]])) .leaf) (some (.blk false 28 9 [[.sy (.imm p.s.hg 3 GrR p.s.gs encG), .sy (.int 0 p.s.clients), .sy (.int 0 p.s.window), .sy (.int 0 p.s.deadline), .sy (.int 0 p.s.pace), .sy (.int 0 p.s.again), .sy (.int 0 p.s.bag), .sy (.int 4 p.s.first), .sy (.imm p.s.ho 9 OpR p.s.os encO)]])) (.node .leaf (some (.blk false 39 9 [[.sy (.imm p.hg 3 GrR p.gs encG), .sy (.int 0 p.s.clients), .sy (.int 0 p.s.window), .sy (.int 0 p.s.deadline), .sy (.int 0 p.s.pace), .sy (.int 0 p.s.again), .sy (.int 0 p.s.bag), .sy (.int 4 p.s.first), .sy (.prow 3 ((p.o ++ m1).length))]])) .leaf)), 4) = I_l_own q1 ∧ mu_l_own q1 < mu_l_own p) (sp_l_own q1 K)))))))))))))))) true)) (K 2 (.cons 3 (.ptr 1 0) (.cons 2 (.ptr 0 0) .nil)) (.node (.node .leaf (some (.blk false 39 9 [[.sy (.imm p.hg 3 GrR p.gs encG), .sy (.int 0 p.s.clients), .sy (.int 0 p.s.window), .sy (.int 0 p.s.deadline), .sy (.int 0 p.s.pace), .sy (.int 0 p.s.again), .sy (.int 0 p.s.bag), .sy (.int 4 p.s.first), .sy (.prow 2 p.o.length)]])) .leaf) (some (.blk false 39 9 [[.nilS, .int 0 (.ofNat 0), .int 0 (.ofNat 0), .int 0 (.ofNat 0), .int 0 (.ofNat 0), .int 0 (.ofNat 0), .int 0 (.ofNat 0), .int 4 (.ofNat 0), .nilS]])) (.node .leaf (some (.prow 52 9 OpR p.o encO)) .leaf)) 3))) (by kernel_rfl) ?_
  dsimp only [pre_l_own] at hpre
  obtain ⟨g0, g1, g2, g3, g4⟩ := hpre
  have g9 := g0.1
  refine iI (fun hc1 => ?_) (fun hc1 => ?_)
  refine mI (by first | omega | (constructor <;> omega)) ?_
  refine allB_mk (fun x1 => ?_)
  refine iI (fun hi2 => ?_) (fun _ => rfl)
  have hm := g0.2 _ x1 (by assumption)
  refine callPR (⟨x1.hp, x1.ps⟩ : A_parts) rfl (by (try dsimp only [pre_parts]) ; omega) fun r1 hi3 => ?_
  dsimp only [po_parts] at hi3
  refine mI (rfl) (mI (rfl) (mI (rfl) (mI (rfl) (mI (rfl) (mI (rfl) (mI (rfl) (mI (rfl) (mI (rfl) (mI (rfl) (mI (rfl) ?_))))))))))
  refine exB_mk [({ x1 with hp := r1.h, ps := r1.o } : OpR)] ?_
  refine mI (show rowsR ([({ x1 with hp := r1.h, ps := r1.o } : OpR)].map encO) [[.sint 0 x1.kind, .sint 0 x1.x, .sint 0 x1.y, .sint 0 x1.i, .sint 0 x1.at_, .sint 0 x1.mode, .sint 3 x1.mask, .sint 1 x1.grp, .imm r1.h 5 PtR r1.o encP]] from ⟨⟨.inl rfl, ⟨.inl rfl, ⟨.inl rfl, ⟨.inl rfl, ⟨.inl rfl, ⟨.inl rfl, ⟨.inl rfl, ⟨.inl rfl, ⟨.inl rfl, trivial⟩⟩⟩⟩⟩⟩⟩⟩⟩, trivial⟩) (mI (by (try dsimp only) ; (first | omega | (simp [limP] <;> omega))) ?_)
  refine mI (by simp only [InR] ; omega) ?_
  exact bk_l_own (q := ⟨p.s, p.hg, p.gs, p.o ++ [({ x1 with hp := r1.h, ps := r1.o } : OpR)], p.i + (1 : Int)⟩) (by dsimp only [mu_l_own] ; omega) (by dsimp only [pre_l_own] ; exact ⟨g0, by omega, by omega, by simp ; omega, map_app (by omega) g4 (by assumption) (by simp only [opk] ; rw [hi3])⟩) hK rfl
  exact fin_l_own hK ⟨p.o⟩ (by dsimp only [po_l_own] <;> exact map_end g4 (by omega))
theorem lo_l_own : LpOk Tryd.prog 28 0 lp_own true 0 bd_l_own := by
  exact lp_of (lf := 600) ts_mix (cfT_ok nat_conf_ok) (by rfl) I_l_own mu_l_own sp_l_own (fun b j x h => by cases h) (fun S M nx K h => by obtain ⟨p, h⟩ := exB_ok h; exact ⟨p, (mustP_ok h).1, (mustP_ok h).2⟩) (fun p K h => vb_l_own p K (mustP_ok h).1 (mustP_ok h).2)
structure A_own where
  s : ScR
structure R_own where
  t : ScR
def po_own (p : A_own) (r : R_own) : Prop := sck r.t = sck p.s
noncomputable def I_own (p : A_own) : IE := ([.agg [.sy (.imm p.s.hg 3 GrR p.s.gs encG), .sy (.int 0 p.s.clients), .sy (.int 0 p.s.window), .sy (.int 0 p.s.deadline), .sy (.int 0 p.s.pace), .sy (.int 0 p.s.again), .sy (.int 0 p.s.bag), .sy (.int 4 p.s.first), .sy (.imm p.s.ho 9 OpR p.s.os encO)]], .leaf, 0)
noncomputable def out_own (p : A_own) (K : KE) : Bool := allB fun r : R_own => iP (po_own p r) (K (.agg [.sy (.imm r.t.hg 3 GrR r.t.gs encG), .sy (.int 0 r.t.clients), .sy (.int 0 r.t.window), .sy (.int 0 r.t.deadline), .sy (.int 0 r.t.pace), .sy (.int 0 r.t.again), .sy (.int 0 r.t.bag), .sy (.int 4 r.t.first), .sy (.imm r.t.ho 9 OpR r.t.os encO)]) .leaf 0) true
def pre_own (p : A_own) : Prop := okO p.s.os ∧ p.s.gs.length ≤ 10
theorem fin_own {p : A_own} {K : KE} (hK : out_own p K = true) (r : R_own) (h : po_own p r) : K (.agg [.sy (.imm r.t.hg 3 GrR r.t.gs encG), .sy (.int 0 r.t.clients), .sy (.int 0 r.t.window), .sy (.int 0 r.t.deadline), .sy (.int 0 r.t.pace), .sy (.int 0 r.t.again), .sy (.int 0 r.t.bag), .sy (.int 4 r.t.first), .sy (.imm r.t.ho 9 OpR r.t.os encO)]) .leaf 0 = true := ifB_use h (allB_ok hK r)
theorem vf_own (p : A_own) (K : KE) (hpre : pre_own p) (hK : out_own p K = true) : (funE 0 (cfT nat_conf) lp_own 600 ft_own (I_own p).1 (I_own p).2.1 (I_own p).2.2 K) = true := by
  refine Eq.trans (b := (useC (([.agg [.sy (.imm p.s.hg 3 GrR p.s.gs encG), .sy (.int 0 p.s.clients), .sy (.int 0 p.s.window), .sy (.int 0 p.s.deadline), .sy (.int 0 p.s.pace), .sy (.int 0 p.s.again), .sy (.int 0 p.s.bag), .sy (.int 4 p.s.first)]], .leaf, 0)) I_conf pre_conf po_conf fun p1 r1 => mP ((.nilS : AV) = (.nilS : AV)) (useC (((.cons 4 (.sy (.int 0 0)) (.cons 3 (.ptr 2 0) (.cons 2 (.ptr 1 0) (.cons 1 (.ptr 0 0) .nil)))), (.node (.node (.node .leaf (some (.prow 52 9 OpR ([] : List OpR) encO)) .leaf) (some (.blk false 39 9 [[.nilS, .int 0 (.ofNat 0), .int 0 (.ofNat 0), .int 0 (.ofNat 0), .int 0 (.ofNat 0), .int 0 (.ofNat 0), .int 0 (.ofNat 0), .int 4 (.ofNat 0), .nilS]])) .leaf) (some (.blk false 28 9 [[.sy (.imm p.s.hg 3 GrR p.s.gs encG), .sy (.int 0 p.s.clients), .sy (.int 0 p.s.window), .sy (.int 0 p.s.deadline), .sy (.int 0 p.s.pace), .sy (.int 0 p.s.again), .sy (.int 0 p.s.bag), .sy (.int 4 p.s.first), .sy (.imm p.s.ho 9 OpR p.s.os encO)]])) (.node .leaf (some (.blk false 39 9 [[.sy (.imm r1.h 3 GrR r1.o encG), .sy (.int 0 p1.clients), .sy (.int 0 p1.window), .sy (.int 0 p1.deadline), .sy (.int 0 p1.pace), .sy (.int 0 p1.again), .sy (.int 0 p1.bag), .sy (.int 4 p1.first), .sy (.prow 3 0)]])) .leaf)), 4)) I_l_own pre_l_own po_l_own fun p2 r2 => mP (r2.o.length = r2.o.length) (allB fun h1 : Value => mP ((.sy (.prow 2 r2.o.length) : AV) = (.sy (.prow 2 r2.o.length) : AV)) (K (.agg [.sy (.imm p2.hg 3 GrR p2.gs encG), .sy (.int 0 p2.s.clients), .sy (.int 0 p2.s.window), .sy (.int 0 p2.s.deadline), .sy (.int 0 p2.s.pace), .sy (.int 0 p2.s.again), .sy (.int 0 p2.s.bag), .sy (.int 4 p2.s.first), .sy (.imm h1 9 OpR r2.o encO)]) .leaf 0))))) (by kernel_rfl) ?_
  dsimp only [pre_own] at hpre
  have q2 := hpre.2
  refine callPR (⟨p.s.hg, p.s.gs, p.s.clients, p.s.window, p.s.deadline, p.s.pace, p.s.again, p.s.bag, p.s.first⟩ : A_conf) rfl (by (try dsimp only [pre_conf]) ; omega) fun r1 hi1 => ?_
  dsimp only [po_conf] at hi1
  refine mI (rfl) ?_
  refine callPR (⟨p.s, r1.h, r1.o, ([] : List OpR), (0 : Int)⟩ : A_l_own) rfl (by (try dsimp only [pre_l_own]) ; exact ⟨hpre.1, by omega, by omega, by simp, by simp⟩) fun r2 hi2 => ?_
  dsimp only [po_l_own] at hi2
  refine mI (rfl) ?_
  refine allB_mk (fun h1 => ?_)
  refine mI (rfl) ?_
  exact fin_own hK ⟨({ p.s with hg := r1.h, gs := r1.o, ho := h1, os := r2.o } : ScR)⟩ (by dsimp only [po_own] <;> (simp only [sck] ; rw [hi1, hi2]))
noncomputable def nat_own := natC nat_conf 0 (esOf I_own (spP pre_own out_own)) 8 [(0, 15)]
theorem nat_own_ok : NatsOk Tryd.prog nat_own := natC_ok (natE_said (f := 8) (k := 0) (lp := lp_own) (lf := 600) ts_mix (cfT_ok nat_conf_ok) ft_own_ok (by rfl) (fun b j x h => (mem_step lo_l_own (fun h => (by cases h)) h)) fun p K h => vf_own p K (mustP_ok h).1 (mustP_ok h).2) nat_conf_ok
def ft_equalG : XF := .mk 26 (.one 4) (.aft (.seq (g_ 1 [p_ 0 4 (.mv (.c (.bool false)))]) (.seq (.seq (g_ 5 [p_ 0 6 (m_ 0), p_ 1 7 (k_ 6), p_ 2 8 (m_ 1), p_ 3 9 (k_ 8), p_ 4 10 (.bin 3 5 (.t 7) (.t 9))]) (.cond (.t 10) (.seq (g_ 1 [p_ 0 4 (.mv (.c (.bool false)))]) .ret) .skip)) (.seq (.seq (g_ 3 [p_ 0 11 (m_ 0), p_ 1 12 (k_ 11), p_ 2 13 (.mv (i_ 0))]) (.block 2 (.pre [.can 0 [0, 1, 12, 13], .up 12, .up 13, .can 0 [0, 1, 12, 13]] (.inv 0 (.aft (.seq (g_ 1 [p_ 0 14 (.bin 3 0 (.t 13) (.t 12))]) (.seq (.cond (.t 14) .skip (.exit 2)) (.seq (.block 3 (.seq (g_ 2 [p_ 0 15 (m_ 13), p_ 1 5 (m_ 15)]) (.seq (h_ 9 [p_ 0 16 (m_ 0), p_ 1 17 (m_ 5), p_ 2 18 (.ixs 3 (.t 16) (.t 17)), r_ 3 19 (.ld true 3 (.t 18)), p_ 4 20 (m_ 1), p_ 5 21 (m_ 5), p_ 6 22 (.ixs 3 (.t 20) (.t 21)), r_ 7 23 (.ld true 3 (.t 22)), p_ 8 24 (.eqs true 2 (.st [(0, 1, false, .int), (1, 1, false, .int), (2, 1, false, .bool)]) (.t 19) (.t 23))]) (.cond (.t 24) (.seq (g_ 1 [p_ 0 4 (.mv (.c (.bool false)))]) .ret) .skip)))) (g_ 2 [p_ 0 25 (.bin 0 0 (.t 13) (i_ 1)), p_ 1 13 (m_ 25)])))) [(0, [.can 0 [0, 1, 12, 13]]), (1, [.can 0 [4]]), (2, [.can 0 []])]))))) (.seq (g_ 1 [p_ 0 4 (.mv (.c (.bool true)))]) .ret)))) [(0, [.up 4]), (1, [.up 4])])
theorem ft_equalG_ok : chkF Tryd.prog 61 ft_equalG = true := by kernel_rfl
structure A_l_equalG where
  h1 : Value
  l1 : List GrR
  h2 : Value
  l2 : List GrR
  i : Int
def po_l_equalG (p : A_l_equalG) : Prop := p.l1 = p.l2
def po_l_equalG1 (p : A_l_equalG) : Prop := ¬ p.l1 = p.l2
noncomputable def I_l_equalG (p : A_l_equalG) : IL := ((.cons 13 (.sy (.int 0 p.i)) (.cons 12 (.sy (.int 0 (p.l1.length : Int))) (.cons 1 (.sy (.imm p.h2 3 GrR p.l2 encG)) (.cons 0 (.sy (.imm p.h1 3 GrR p.l1 encG)) .nil)))), .leaf, 0)
noncomputable def out_l_equalG (p : A_l_equalG) (K : KC) : Bool := must (iP (po_l_equalG p) (K 2 .nil .leaf 0) true) (iP (po_l_equalG1 p) (K 1 (.cons 4 (.bool false) .nil) .leaf 0) true)
def pre_l_equalG (p : A_l_equalG) : Prop := p.l1.length = p.l2.length ∧ 0 ≤ p.i ∧ p.i ≤ (p.l1.length : Int) ∧ p.l1.length ≤ 1000000 ∧ (p.l1.take p.i.toNat).map id = (p.l2.take p.i.toNat).map id
noncomputable def sp_l_equalG (p : A_l_equalG) (K : KC) : Bool := must (prB (pre_l_equalG p)) (out_l_equalG p K)
noncomputable def lp_equalG : LpF := fun j S M nx K => (Bool.rec (false) (exB fun p : A_l_equalG => must (prB ((S, M, nx) = I_l_equalG p)) (sp_l_equalG p K)) (Nat.beq j 0))
def mu_l_equalG (p : A_l_equalG) : Nat := ((p.l1.length : Int) - p.i).toNat
theorem bk_l_equalG {p q : A_l_equalG} {K : KC} {s : IL} (hm : mu_l_equalG q < mu_l_equalG p) (hp : pre_l_equalG q) (hK : out_l_equalG q K = true) (e : s = I_l_equalG q) : (exB fun q => mP (s = I_l_equalG q ∧ mu_l_equalG q < mu_l_equalG p) (sp_l_equalG q K)) = true := exB_mk q (mustP ⟨e, hm⟩ (mustP hp hK))
def bd_l_equalG : XC := (.aft (.seq (g_ 1 [p_ 0 14 (.bin 3 0 (.t 13) (.t 12))]) (.seq (.cond (.t 14) .skip (.exit 2)) (.seq (.block 3 (.seq (g_ 2 [p_ 0 15 (m_ 13), p_ 1 5 (m_ 15)]) (.seq (h_ 9 [p_ 0 16 (m_ 0), p_ 1 17 (m_ 5), p_ 2 18 (.ixs 3 (.t 16) (.t 17)), r_ 3 19 (.ld true 3 (.t 18)), p_ 4 20 (m_ 1), p_ 5 21 (m_ 5), p_ 6 22 (.ixs 3 (.t 20) (.t 21)), r_ 7 23 (.ld true 3 (.t 22)), p_ 8 24 (.eqs true 2 (.st [(0, 1, false, .int), (1, 1, false, .int), (2, 1, false, .bool)]) (.t 19) (.t 23))]) (.cond (.t 24) (.seq (g_ 1 [p_ 0 4 (.mv (.c (.bool false)))]) .ret) .skip)))) (g_ 2 [p_ 0 25 (.bin 0 0 (.t 13) (i_ 1)), p_ 1 13 (m_ 25)])))) [(0, [.can 0 [0, 1, 12, 13]]), (1, [.can 0 [4]]), (2, [.can 0 []])])
theorem vb_l_equalG (p : A_l_equalG) (K : KC) (hpre : pre_l_equalG p) (hK : out_l_equalG p K = true) : (codeX (cfT nat_own) lp_equalG 600 bd_l_equalG (I_l_equalG p).1 (I_l_equalG p).2.1 (I_l_equalG p).2.2 (fun e S M nx => Nat.casesOn e (exB fun q : A_l_equalG => must (prB ((S, M, nx) = I_l_equalG q ∧ mu_l_equalG q < mu_l_equalG p)) (sp_l_equalG q K)) (fun e2 => K (Nat.succ e2) S M nx))) = true := by
  refine Eq.trans (b := (let z0 : Bool := (K 1 (.cons 4 (.bool false) .nil) .leaf 0); iP (p.i < (p.l1.length : Int)) (mP (0 ≤ p.i ∧ p.i < (p.l1.length : Int)) (allB fun x1 : GrR => iP (p.l1[p.i.toNat]? = some x1) (mP (0 ≤ p.i ∧ p.i < (p.l2.length : Int)) (allB fun x2 : GrR => iP (p.l2[p.i.toNat]? = some x2) (iP (x1.f = x2.f) (iP (x1.s = x2.s) (iP (x1.c) (iP (x2.c) (mP (InR 0 (p.i + (1 : Int))) (exB fun q1 : A_l_equalG => mP (((.cons 13 (.sy (.int 0 (p.i + (1 : Int)))) (.cons 12 (.sy (.int 0 (p.l1.length : Int))) (.cons 1 (.sy (.imm p.h2 3 GrR p.l2 encG)) (.cons 0 (.sy (.imm p.h1 3 GrR p.l1 encG)) .nil)))), .leaf, 0) = I_l_equalG q1 ∧ mu_l_equalG q1 < mu_l_equalG p) (sp_l_equalG q1 K))) z0) (iP (x2.c) z0 (mP (InR 0 (p.i + (1 : Int))) (exB fun q2 : A_l_equalG => mP (((.cons 13 (.sy (.int 0 (p.i + (1 : Int)))) (.cons 12 (.sy (.int 0 (p.l1.length : Int))) (.cons 1 (.sy (.imm p.h2 3 GrR p.l2 encG)) (.cons 0 (.sy (.imm p.h1 3 GrR p.l1 encG)) .nil)))), .leaf, 0) = I_l_equalG q2 ∧ mu_l_equalG q2 < mu_l_equalG p) (sp_l_equalG q2 K))))) z0) z0) true)) true)) (K 2 .nil .leaf 0))) (by kernel_rfl) ?_
  obtain ⟨hK0, hKr0⟩ := must_ok hK
  have hK1 := hKr0
  dsimp only [pre_l_equalG] at hpre
  obtain ⟨g0, g1, g2, g3, g4⟩ := hpre
  refine iI (fun hc1 => ?_) (fun hc1 => ?_)
  refine mI (by first | omega | (constructor <;> omega)) ?_
  refine allB_mk (fun x1 => ?_)
  refine iI (fun hi2 => ?_) (fun _ => rfl)
  refine mI (by first | omega | (constructor <;> omega)) ?_
  refine allB_mk (fun x2 => ?_)
  refine iI (fun hi3 => ?_) (fun _ => rfl)
  refine iI (fun hc4 => ?_) (fun hc4 => ?_)
  refine iI (fun hc5 => ?_) (fun hc5 => ?_)
  refine iI (fun hc6 => ?_) (fun hc6 => ?_)
  refine iI (fun hc7 => ?_) (fun hc7 => ?_)
  refine mI (by simp only [InR] ; omega) ?_
  exact bk_l_equalG (q := ⟨p.h1, p.l1, p.h2, p.l2, p.i + (1 : Int)⟩) (by dsimp only [mu_l_equalG] ; omega) (by dsimp only [pre_l_equalG] ; refine ⟨g0, by omega, by omega, g3, take_step (by omega) g4 hi2 hi3 ?_⟩ ; show x1 = x2 ; obtain ⟨⟩ := x1 ; obtain ⟨⟩ := x2 ; simp_all) hK rfl
  exact ifB_use (show ¬ p.l1 = p.l2 from (by intro e ; rw [e] at hi2 ; have e2 := Option.some.inj (hi2.symm.trans hi3) ; subst e2 ; first | contradiction | omega | simp_all)) hK1
  refine iI (fun hc8 => ?_) (fun hc8 => ?_)
  exact ifB_use (show ¬ p.l1 = p.l2 from (by intro e ; rw [e] at hi2 ; have e2 := Option.some.inj (hi2.symm.trans hi3) ; subst e2 ; first | contradiction | omega | simp_all)) hK1
  refine mI (by simp only [InR] ; omega) ?_
  exact bk_l_equalG (q := ⟨p.h1, p.l1, p.h2, p.l2, p.i + (1 : Int)⟩) (by dsimp only [mu_l_equalG] ; omega) (by dsimp only [pre_l_equalG] ; refine ⟨g0, by omega, by omega, g3, take_step (by omega) g4 hi2 hi3 ?_⟩ ; show x1 = x2 ; obtain ⟨⟩ := x1 ; obtain ⟨⟩ := x2 ; simp_all) hK rfl
  exact ifB_use (show ¬ p.l1 = p.l2 from (by intro e ; rw [e] at hi2 ; have e2 := Option.some.inj (hi2.symm.trans hi3) ; subst e2 ; first | contradiction | omega | simp_all)) hK1
  exact ifB_use (show ¬ p.l1 = p.l2 from (by intro e ; rw [e] at hi2 ; have e2 := Option.some.inj (hi2.symm.trans hi3) ; subst e2 ; first | contradiction | omega | simp_all)) hK1
  exact ifB_use (show p.l1 = p.l2 from (by have e := take_end g4 (by omega) (by omega) ; simpa using e)) hK0
theorem lo_l_equalG : LpOk Tryd.prog 26 0 lp_equalG true 0 bd_l_equalG := by
  exact lp_of (lf := 600) ts_mix (cfT_ok nat_own_ok) (by rfl) I_l_equalG mu_l_equalG sp_l_equalG (fun b j x h => by cases h) (fun S M nx K h => by obtain ⟨p, h⟩ := exB_ok h; exact ⟨p, (mustP_ok h).1, (mustP_ok h).2⟩) (fun p K h => vb_l_equalG p K (mustP_ok h).1 (mustP_ok h).2)
structure A_equalG where
  h1 : Value
  l1 : List GrR
  h2 : Value
  l2 : List GrR
structure R_equalG where
  q : Prop
def po_equalG (p : A_equalG) (r : R_equalG) : Prop := r.q ↔ p.l1 = p.l2
noncomputable def I_equalG (p : A_equalG) : IE := ([.sy (.imm p.h1 3 GrR p.l1 encG), .sy (.imm p.h2 3 GrR p.l2 encG)], .leaf, 0)
noncomputable def out_equalG (p : A_equalG) (K : KE) : Bool := allB fun r : R_equalG => iP (po_equalG p r) (K (.sy (.bool r.q)) .leaf 0) true
def pre_equalG (p : A_equalG) : Prop := p.l1.length ≤ 1000000 ∧ p.l2.length ≤ 1000000
theorem fin_equalG {p : A_equalG} {K : KE} (hK : out_equalG p K = true) (r : R_equalG) (h : po_equalG p r) : K (.sy (.bool r.q)) .leaf 0 = true := ifB_use h (allB_ok hK r)
theorem vf_equalG (p : A_equalG) (K : KE) (hpre : pre_equalG p) (hK : out_equalG p K = true) : (funE 0 (cfT nat_own) lp_equalG 600 ft_equalG (I_equalG p).1 (I_equalG p).2.1 (I_equalG p).2.2 K) = true := by
  refine Eq.trans (b := (iP (¬ (p.l1.length : Int) = (p.l2.length : Int)) (K (.sy (.bool (false = true))) .leaf 0) (exB fun p1 : A_l_equalG => mP (((.cons 13 (.sy (.int 0 0)) (.cons 12 (.sy (.int 0 (p.l1.length : Int))) (.cons 1 (.sy (.imm p.h2 3 GrR p.l2 encG)) (.cons 0 (.sy (.imm p.h1 3 GrR p.l1 encG)) .nil)))), .leaf, 0) = I_l_equalG p1) (mP (pre_l_equalG p1) (must (iP (po_l_equalG p1) (K (.sy (.bool (true = true))) .leaf 0) true) (iP (po_l_equalG1 p1) (K (.sy (.bool (false = true))) .leaf 0) true)))))) (by kernel_rfl) ?_
  dsimp only [pre_equalG] at hpre
  obtain ⟨u1, u2⟩ := hpre
  refine iI (fun hc1 => ?_) (fun hc1 => ?_)
  exact fin_equalG hK ⟨false = true⟩ (by dsimp only [po_equalG] <;> (first | (simp ; done) | (simp ; assumption) | (simp ; intro e ; exact hc1 (by rw [e])) | simp_all))
  refine callP (⟨p.h1, p.l1, p.h2, p.l2, (0 : Int)⟩ : A_l_equalG) rfl (by (try dsimp only [pre_l_equalG]) ; refine ⟨by omega, by omega, by omega, by omega, rfl⟩) ?_
  refine must_mk ?_ ?_
  refine iI (p := p.l1 = p.l2) (fun hi2 => ?_) (fun _ => rfl)
  exact fin_equalG hK ⟨true = true⟩ (by dsimp only [po_equalG] <;> (first | (simp ; done) | (simp ; assumption) | (simp ; intro e ; exact hc1 (by rw [e])) | simp_all))
  refine iI (p := ¬ p.l1 = p.l2) (fun hi3 => ?_) (fun _ => rfl)
  exact fin_equalG hK ⟨false = true⟩ (by dsimp only [po_equalG] <;> (first | (simp ; done) | (simp ; assumption) | (simp ; intro e ; exact hc1 (by rw [e])) | simp_all))
noncomputable def nat_equalG := natC nat_own 0 (esOf I_equalG (spP pre_equalG out_equalG)) 61 [(0, 23), (1, 23)]
theorem nat_equalG_ok : NatsOk Tryd.prog nat_equalG := natC_ok (natE_said (f := 61) (k := 0) (lp := lp_equalG) (lf := 600) ts_mix (cfT_ok nat_own_ok) ft_equalG_ok (by rfl) (fun b j x h => (mem_step lo_l_equalG (fun h => (by cases h)) h)) fun p K h => vf_equalG p K (mustP_ok h).1 (mustP_ok h).2) nat_own_ok
def ft_equalP : XF := .mk 26 (.one 4) (.aft (.seq (g_ 1 [p_ 0 4 (.mv (.c (.bool false)))]) (.seq (.seq (g_ 5 [p_ 0 6 (m_ 0), p_ 1 7 (k_ 6), p_ 2 8 (m_ 1), p_ 3 9 (k_ 8), p_ 4 10 (.bin 3 5 (.t 7) (.t 9))]) (.cond (.t 10) (.seq (g_ 1 [p_ 0 4 (.mv (.c (.bool false)))]) .ret) .skip)) (.seq (.seq (g_ 3 [p_ 0 11 (m_ 0), p_ 1 12 (k_ 11), p_ 2 13 (.mv (i_ 0))]) (.block 2 (.pre [.can 0 [0, 1, 12, 13], .up 12, .up 13, .can 0 [0, 1, 12, 13]] (.inv 0 (.aft (.seq (g_ 1 [p_ 0 14 (.bin 3 0 (.t 13) (.t 12))]) (.seq (.cond (.t 14) .skip (.exit 2)) (.seq (.block 3 (.seq (g_ 2 [p_ 0 15 (m_ 13), p_ 1 5 (m_ 15)]) (.seq (h_ 9 [p_ 0 16 (m_ 0), p_ 1 17 (m_ 5), p_ 2 18 (.ixs 5 (.t 16) (.t 17)), r_ 3 19 (.ld true 5 (.t 18)), p_ 4 20 (m_ 1), p_ 5 21 (m_ 5), p_ 6 22 (.ixs 5 (.t 20) (.t 21)), r_ 7 23 (.ld true 5 (.t 22)), p_ 8 24 (.eqs true 2 (.st [(0, 1, false, .int), (1, 1, false, .int), (2, 1, false, .str), (3, 1, false, .str), (4, 1, false, .int)]) (.t 19) (.t 23))]) (.cond (.t 24) (.seq (g_ 1 [p_ 0 4 (.mv (.c (.bool false)))]) .ret) .skip)))) (g_ 2 [p_ 0 25 (.bin 0 0 (.t 13) (i_ 1)), p_ 1 13 (m_ 25)])))) [(0, [.can 0 [0, 1, 12, 13]]), (1, [.can 0 [4]]), (2, [.can 0 []])]))))) (.seq (g_ 1 [p_ 0 4 (.mv (.c (.bool true)))]) .ret)))) [(0, [.up 4]), (1, [.up 4])])
theorem ft_equalP_ok : chkF Tryd.prog 78 ft_equalP = true := by kernel_rfl
structure A_l_equalP where
  h1 : Value
  l1 : List PtR
  h2 : Value
  l2 : List PtR
  i : Int
def po_l_equalP (p : A_l_equalP) : Prop := p.l1 = p.l2
def po_l_equalP1 (p : A_l_equalP) : Prop := ¬ p.l1 = p.l2
noncomputable def I_l_equalP (p : A_l_equalP) : IL := ((.cons 13 (.sy (.int 0 p.i)) (.cons 12 (.sy (.int 0 (p.l1.length : Int))) (.cons 1 (.sy (.imm p.h2 5 PtR p.l2 encP)) (.cons 0 (.sy (.imm p.h1 5 PtR p.l1 encP)) .nil)))), .leaf, 0)
noncomputable def out_l_equalP (p : A_l_equalP) (K : KC) : Bool := must (iP (po_l_equalP p) (K 2 .nil .leaf 0) true) (iP (po_l_equalP1 p) (K 1 (.cons 4 (.bool false) .nil) .leaf 0) true)
def pre_l_equalP (p : A_l_equalP) : Prop := p.l1.length = p.l2.length ∧ 0 ≤ p.i ∧ p.i ≤ (p.l1.length : Int) ∧ p.l1.length ≤ 1000000 ∧ (p.l1.take p.i.toNat).map id = (p.l2.take p.i.toNat).map id
noncomputable def sp_l_equalP (p : A_l_equalP) (K : KC) : Bool := must (prB (pre_l_equalP p)) (out_l_equalP p K)
noncomputable def lp_equalP : LpF := fun j S M nx K => (Bool.rec (false) (exB fun p : A_l_equalP => must (prB ((S, M, nx) = I_l_equalP p)) (sp_l_equalP p K)) (Nat.beq j 0))
def mu_l_equalP (p : A_l_equalP) : Nat := ((p.l1.length : Int) - p.i).toNat
theorem bk_l_equalP {p q : A_l_equalP} {K : KC} {s : IL} (hm : mu_l_equalP q < mu_l_equalP p) (hp : pre_l_equalP q) (hK : out_l_equalP q K = true) (e : s = I_l_equalP q) : (exB fun q => mP (s = I_l_equalP q ∧ mu_l_equalP q < mu_l_equalP p) (sp_l_equalP q K)) = true := exB_mk q (mustP ⟨e, hm⟩ (mustP hp hK))
def bd_l_equalP : XC := (.aft (.seq (g_ 1 [p_ 0 14 (.bin 3 0 (.t 13) (.t 12))]) (.seq (.cond (.t 14) .skip (.exit 2)) (.seq (.block 3 (.seq (g_ 2 [p_ 0 15 (m_ 13), p_ 1 5 (m_ 15)]) (.seq (h_ 9 [p_ 0 16 (m_ 0), p_ 1 17 (m_ 5), p_ 2 18 (.ixs 5 (.t 16) (.t 17)), r_ 3 19 (.ld true 5 (.t 18)), p_ 4 20 (m_ 1), p_ 5 21 (m_ 5), p_ 6 22 (.ixs 5 (.t 20) (.t 21)), r_ 7 23 (.ld true 5 (.t 22)), p_ 8 24 (.eqs true 2 (.st [(0, 1, false, .int), (1, 1, false, .int), (2, 1, false, .str), (3, 1, false, .str), (4, 1, false, .int)]) (.t 19) (.t 23))]) (.cond (.t 24) (.seq (g_ 1 [p_ 0 4 (.mv (.c (.bool false)))]) .ret) .skip)))) (g_ 2 [p_ 0 25 (.bin 0 0 (.t 13) (i_ 1)), p_ 1 13 (m_ 25)])))) [(0, [.can 0 [0, 1, 12, 13]]), (1, [.can 0 [4]]), (2, [.can 0 []])])
theorem vb_l_equalP (p : A_l_equalP) (K : KC) (hpre : pre_l_equalP p) (hK : out_l_equalP p K = true) : (codeX (cfT nat_equalG) lp_equalP 600 bd_l_equalP (I_l_equalP p).1 (I_l_equalP p).2.1 (I_l_equalP p).2.2 (fun e S M nx => Nat.casesOn e (exB fun q : A_l_equalP => must (prB ((S, M, nx) = I_l_equalP q ∧ mu_l_equalP q < mu_l_equalP p)) (sp_l_equalP q K)) (fun e2 => K (Nat.succ e2) S M nx))) = true := by
  refine Eq.trans (b := (let z0 : Bool := (K 1 (.cons 4 (.bool false) .nil) .leaf 0); iP (p.i < (p.l1.length : Int)) (mP (0 ≤ p.i ∧ p.i < (p.l1.length : Int)) (allB fun x1 : PtR => iP (p.l1[p.i.toNat]? = some x1) (mP (0 ≤ p.i ∧ p.i < (p.l2.length : Int)) (allB fun x2 : PtR => iP (p.l2[p.i.toNat]? = some x2) (iP (x1.g = x2.g) (iP (x1.k = x2.k) (iP (x1.key = x2.key) (iP (x1.val = x2.val) (iP (x1.n = x2.n) (mP (InR 0 (p.i + (1 : Int))) (exB fun q1 : A_l_equalP => mP (((.cons 13 (.sy (.int 0 (p.i + (1 : Int)))) (.cons 12 (.sy (.int 0 (p.l1.length : Int))) (.cons 1 (.sy (.imm p.h2 5 PtR p.l2 encP)) (.cons 0 (.sy (.imm p.h1 5 PtR p.l1 encP)) .nil)))), .leaf, 0) = I_l_equalP q1 ∧ mu_l_equalP q1 < mu_l_equalP p) (sp_l_equalP q1 K))) z0) z0) z0) z0) z0) true)) true)) (K 2 .nil .leaf 0))) (by kernel_rfl) ?_
  obtain ⟨hK0, hKr0⟩ := must_ok hK
  have hK1 := hKr0
  dsimp only [pre_l_equalP] at hpre
  obtain ⟨g0, g1, g2, g3, g4⟩ := hpre
  refine iI (fun hc1 => ?_) (fun hc1 => ?_)
  refine mI (by first | omega | (constructor <;> omega)) ?_
  refine allB_mk (fun x1 => ?_)
  refine iI (fun hi2 => ?_) (fun _ => rfl)
  refine mI (by first | omega | (constructor <;> omega)) ?_
  refine allB_mk (fun x2 => ?_)
  refine iI (fun hi3 => ?_) (fun _ => rfl)
  refine iI (fun hc4 => ?_) (fun hc4 => ?_)
  refine iI (fun hc5 => ?_) (fun hc5 => ?_)
  refine iI (fun hc6 => ?_) (fun hc6 => ?_)
  refine iI (fun hc7 => ?_) (fun hc7 => ?_)
  refine iI (fun hc8 => ?_) (fun hc8 => ?_)
  refine mI (by simp only [InR] ; omega) ?_
  exact bk_l_equalP (q := ⟨p.h1, p.l1, p.h2, p.l2, p.i + (1 : Int)⟩) (by dsimp only [mu_l_equalP] ; omega) (by dsimp only [pre_l_equalP] ; refine ⟨g0, by omega, by omega, g3, take_step (by omega) g4 hi2 hi3 ?_⟩ ; show x1 = x2 ; obtain ⟨⟩ := x1 ; obtain ⟨⟩ := x2 ; simp_all) hK rfl
  exact ifB_use (show ¬ p.l1 = p.l2 from (by intro e ; rw [e] at hi2 ; have e2 := Option.some.inj (hi2.symm.trans hi3) ; subst e2 ; first | contradiction | omega | simp_all)) hK1
  exact ifB_use (show ¬ p.l1 = p.l2 from (by intro e ; rw [e] at hi2 ; have e2 := Option.some.inj (hi2.symm.trans hi3) ; subst e2 ; first | contradiction | omega | simp_all)) hK1
  exact ifB_use (show ¬ p.l1 = p.l2 from (by intro e ; rw [e] at hi2 ; have e2 := Option.some.inj (hi2.symm.trans hi3) ; subst e2 ; first | contradiction | omega | simp_all)) hK1
  exact ifB_use (show ¬ p.l1 = p.l2 from (by intro e ; rw [e] at hi2 ; have e2 := Option.some.inj (hi2.symm.trans hi3) ; subst e2 ; first | contradiction | omega | simp_all)) hK1
  exact ifB_use (show ¬ p.l1 = p.l2 from (by intro e ; rw [e] at hi2 ; have e2 := Option.some.inj (hi2.symm.trans hi3) ; subst e2 ; first | contradiction | omega | simp_all)) hK1
  exact ifB_use (show p.l1 = p.l2 from (by have e := take_end g4 (by omega) (by omega) ; simpa using e)) hK0
theorem lo_l_equalP : LpOk Tryd.prog 26 0 lp_equalP true 0 bd_l_equalP := by
  exact lp_of (lf := 600) ts_mix (cfT_ok nat_equalG_ok) (by rfl) I_l_equalP mu_l_equalP sp_l_equalP (fun b j x h => by cases h) (fun S M nx K h => by obtain ⟨p, h⟩ := exB_ok h; exact ⟨p, (mustP_ok h).1, (mustP_ok h).2⟩) (fun p K h => vb_l_equalP p K (mustP_ok h).1 (mustP_ok h).2)
structure A_equalP where
  h1 : Value
  l1 : List PtR
  h2 : Value
  l2 : List PtR
structure R_equalP where
  q : Prop
def po_equalP (p : A_equalP) (r : R_equalP) : Prop := r.q ↔ p.l1 = p.l2
noncomputable def I_equalP (p : A_equalP) : IE := ([.sy (.imm p.h1 5 PtR p.l1 encP), .sy (.imm p.h2 5 PtR p.l2 encP)], .leaf, 0)
noncomputable def out_equalP (p : A_equalP) (K : KE) : Bool := allB fun r : R_equalP => iP (po_equalP p r) (K (.sy (.bool r.q)) .leaf 0) true
def pre_equalP (p : A_equalP) : Prop := p.l1.length ≤ 1000000 ∧ p.l2.length ≤ 1000000
theorem fin_equalP {p : A_equalP} {K : KE} (hK : out_equalP p K = true) (r : R_equalP) (h : po_equalP p r) : K (.sy (.bool r.q)) .leaf 0 = true := ifB_use h (allB_ok hK r)
theorem vf_equalP (p : A_equalP) (K : KE) (hpre : pre_equalP p) (hK : out_equalP p K = true) : (funE 0 (cfT nat_equalG) lp_equalP 600 ft_equalP (I_equalP p).1 (I_equalP p).2.1 (I_equalP p).2.2 K) = true := by
  refine Eq.trans (b := (iP (¬ (p.l1.length : Int) = (p.l2.length : Int)) (K (.sy (.bool (false = true))) .leaf 0) (exB fun p1 : A_l_equalP => mP (((.cons 13 (.sy (.int 0 0)) (.cons 12 (.sy (.int 0 (p.l1.length : Int))) (.cons 1 (.sy (.imm p.h2 5 PtR p.l2 encP)) (.cons 0 (.sy (.imm p.h1 5 PtR p.l1 encP)) .nil)))), .leaf, 0) = I_l_equalP p1) (mP (pre_l_equalP p1) (must (iP (po_l_equalP p1) (K (.sy (.bool (true = true))) .leaf 0) true) (iP (po_l_equalP1 p1) (K (.sy (.bool (false = true))) .leaf 0) true)))))) (by kernel_rfl) ?_
  dsimp only [pre_equalP] at hpre
  obtain ⟨u1, u2⟩ := hpre
  refine iI (fun hc1 => ?_) (fun hc1 => ?_)
  exact fin_equalP hK ⟨false = true⟩ (by dsimp only [po_equalP] <;> (first | (simp ; done) | (simp ; assumption) | (simp ; intro e ; exact hc1 (by rw [e])) | simp_all))
  refine callP (⟨p.h1, p.l1, p.h2, p.l2, (0 : Int)⟩ : A_l_equalP) rfl (by (try dsimp only [pre_l_equalP]) ; refine ⟨by omega, by omega, by omega, by omega, rfl⟩) ?_
  refine must_mk ?_ ?_
  refine iI (p := p.l1 = p.l2) (fun hi2 => ?_) (fun _ => rfl)
  exact fin_equalP hK ⟨true = true⟩ (by dsimp only [po_equalP] <;> (first | (simp ; done) | (simp ; assumption) | (simp ; intro e ; exact hc1 (by rw [e])) | simp_all))
  refine iI (p := ¬ p.l1 = p.l2) (fun hi3 => ?_) (fun _ => rfl)
  exact fin_equalP hK ⟨false = true⟩ (by dsimp only [po_equalP] <;> (first | (simp ; done) | (simp ; assumption) | (simp ; intro e ; exact hc1 (by rw [e])) | simp_all))
noncomputable def nat_equalP := natC nat_equalG 0 (esOf I_equalP (spP pre_equalP out_equalP)) 78 [(0, 23), (1, 23)]
theorem nat_equalP_ok : NatsOk Tryd.prog nat_equalP := natC_ok (natE_said (f := 78) (k := 0) (lp := lp_equalP) (lf := 600) ts_mix (cfT_ok nat_equalG_ok) ft_equalP_ok (by rfl) (fun b j x h => (mem_step lo_l_equalP (fun h => (by cases h)) h)) fun p K h => vf_equalP p K (mustP_ok h).1 (mustP_ok h).2) nat_equalG_ok
def ft_rsame : XF := .mk 26 (.one 4) (.aft (.seq (g_ 1 [p_ 0 4 (.mv (.c (.bool false)))]) (.seq (.seq (g_ 5 [p_ 0 6 (m_ 0), p_ 1 7 (k_ 6), p_ 2 8 (m_ 1), p_ 3 9 (k_ 8), p_ 4 10 (.bin 3 5 (.t 7) (.t 9))]) (.cond (.t 10) (.seq (g_ 1 [p_ 0 4 (.mv (.c (.bool false)))]) .ret) .skip)) (.seq (.seq (g_ 1 [p_ 0 5 (.mv (i_ 0))]) (.block 2 (.pre [.can 0 [0, 1, 5], .up 5, .can 0 [0, 1, 5]] (.inv 0 (.aft (.seq (.seq (g_ 4 [p_ 0 11 (m_ 5), p_ 1 12 (m_ 0), p_ 2 13 (k_ 12), p_ 3 14 (.bin 3 0 (.t 11) (.t 13))]) (.cond (.t 14) .skip (.exit 2))) (.seq (.block 3 (.seq (h_ 9 [p_ 0 17 (m_ 0), p_ 1 18 (m_ 5), p_ 2 19 (.ixs 5 (.t 17) (.t 18)), r_ 3 20 (.ld true 5 (.t 19)), p_ 4 21 (m_ 1), p_ 5 22 (m_ 5), p_ 6 23 (.ixs 5 (.t 21) (.t 22)), r_ 7 24 (.ld true 5 (.t 23)), p_ 8 25 (.eqs true 2 (.st [(0, 1, false, .int), (1, 1, false, .int), (2, 1, false, .str), (3, 1, false, .str), (4, 1, false, .int)]) (.t 20) (.t 24))]) (.cond (.t 25) (.seq (g_ 1 [p_ 0 4 (.mv (.c (.bool false)))]) .ret) .skip))) (g_ 3 [p_ 0 15 (m_ 5), p_ 1 16 (.bin 0 0 (.t 15) (i_ 1)), p_ 2 5 (m_ 16)]))) [(0, [.can 0 [0, 1, 5]]), (1, [.can 0 [4]]), (2, [.can 0 []])]))))) (.seq (g_ 1 [p_ 0 4 (.mv (.c (.bool true)))]) .ret)))) [(0, [.up 4]), (1, [.up 4])])
theorem ft_rsame_ok : chkF Tryd.prog 63 ft_rsame = true := by kernel_rfl
structure A_l_rsame where
  h1 : Value
  l1 : List PtR
  h2 : Value
  l2 : List PtR
  i : Int
def po_l_rsame (p : A_l_rsame) : Prop := p.l1 = p.l2
def po_l_rsame1 (p : A_l_rsame) : Prop := ¬ p.l1 = p.l2
noncomputable def I_l_rsame (p : A_l_rsame) : IL := ((.cons 5 (.sy (.int 0 p.i)) (.cons 1 (.sy (.imm p.h2 5 PtR p.l2 encP)) (.cons 0 (.sy (.imm p.h1 5 PtR p.l1 encP)) .nil))), .leaf, 0)
noncomputable def out_l_rsame (p : A_l_rsame) (K : KC) : Bool := must (iP (po_l_rsame p) (K 2 .nil .leaf 0) true) (iP (po_l_rsame1 p) (K 1 (.cons 4 (.bool false) .nil) .leaf 0) true)
def pre_l_rsame (p : A_l_rsame) : Prop := p.l1.length = p.l2.length ∧ 0 ≤ p.i ∧ p.i ≤ (p.l1.length : Int) ∧ p.l1.length ≤ 1000000 ∧ (p.l1.take p.i.toNat).map id = (p.l2.take p.i.toNat).map id
noncomputable def sp_l_rsame (p : A_l_rsame) (K : KC) : Bool := must (prB (pre_l_rsame p)) (out_l_rsame p K)
noncomputable def lp_rsame : LpF := fun j S M nx K => (Bool.rec (false) (exB fun p : A_l_rsame => must (prB ((S, M, nx) = I_l_rsame p)) (sp_l_rsame p K)) (Nat.beq j 0))
def mu_l_rsame (p : A_l_rsame) : Nat := ((p.l1.length : Int) - p.i).toNat
theorem bk_l_rsame {p q : A_l_rsame} {K : KC} {s : IL} (hm : mu_l_rsame q < mu_l_rsame p) (hp : pre_l_rsame q) (hK : out_l_rsame q K = true) (e : s = I_l_rsame q) : (exB fun q => mP (s = I_l_rsame q ∧ mu_l_rsame q < mu_l_rsame p) (sp_l_rsame q K)) = true := exB_mk q (mustP ⟨e, hm⟩ (mustP hp hK))
def bd_l_rsame : XC := (.aft (.seq (.seq (g_ 4 [p_ 0 11 (m_ 5), p_ 1 12 (m_ 0), p_ 2 13 (k_ 12), p_ 3 14 (.bin 3 0 (.t 11) (.t 13))]) (.cond (.t 14) .skip (.exit 2))) (.seq (.block 3 (.seq (h_ 9 [p_ 0 17 (m_ 0), p_ 1 18 (m_ 5), p_ 2 19 (.ixs 5 (.t 17) (.t 18)), r_ 3 20 (.ld true 5 (.t 19)), p_ 4 21 (m_ 1), p_ 5 22 (m_ 5), p_ 6 23 (.ixs 5 (.t 21) (.t 22)), r_ 7 24 (.ld true 5 (.t 23)), p_ 8 25 (.eqs true 2 (.st [(0, 1, false, .int), (1, 1, false, .int), (2, 1, false, .str), (3, 1, false, .str), (4, 1, false, .int)]) (.t 20) (.t 24))]) (.cond (.t 25) (.seq (g_ 1 [p_ 0 4 (.mv (.c (.bool false)))]) .ret) .skip))) (g_ 3 [p_ 0 15 (m_ 5), p_ 1 16 (.bin 0 0 (.t 15) (i_ 1)), p_ 2 5 (m_ 16)]))) [(0, [.can 0 [0, 1, 5]]), (1, [.can 0 [4]]), (2, [.can 0 []])])
theorem vb_l_rsame (p : A_l_rsame) (K : KC) (hpre : pre_l_rsame p) (hK : out_l_rsame p K = true) : (codeX (cfT nat_equalP) lp_rsame 600 bd_l_rsame (I_l_rsame p).1 (I_l_rsame p).2.1 (I_l_rsame p).2.2 (fun e S M nx => Nat.casesOn e (exB fun q : A_l_rsame => must (prB ((S, M, nx) = I_l_rsame q ∧ mu_l_rsame q < mu_l_rsame p)) (sp_l_rsame q K)) (fun e2 => K (Nat.succ e2) S M nx))) = true := by
  refine Eq.trans (b := (let z0 : Bool := (K 1 (.cons 4 (.bool false) .nil) .leaf 0); iP (p.i < (p.l1.length : Int)) (mP (0 ≤ p.i ∧ p.i < (p.l1.length : Int)) (allB fun x1 : PtR => iP (p.l1[p.i.toNat]? = some x1) (mP (0 ≤ p.i ∧ p.i < (p.l2.length : Int)) (allB fun x2 : PtR => iP (p.l2[p.i.toNat]? = some x2) (iP (x1.g = x2.g) (iP (x1.k = x2.k) (iP (x1.key = x2.key) (iP (x1.val = x2.val) (iP (x1.n = x2.n) (mP (InR 0 (p.i + (1 : Int))) (exB fun q1 : A_l_rsame => mP (((.cons 5 (.sy (.int 0 (p.i + (1 : Int)))) (.cons 1 (.sy (.imm p.h2 5 PtR p.l2 encP)) (.cons 0 (.sy (.imm p.h1 5 PtR p.l1 encP)) .nil))), .leaf, 0) = I_l_rsame q1 ∧ mu_l_rsame q1 < mu_l_rsame p) (sp_l_rsame q1 K))) z0) z0) z0) z0) z0) true)) true)) (K 2 .nil .leaf 0))) (by kernel_rfl) ?_
  obtain ⟨hK0, hKr0⟩ := must_ok hK
  have hK1 := hKr0
  dsimp only [pre_l_rsame] at hpre
  obtain ⟨g0, g1, g2, g3, g4⟩ := hpre
  refine iI (fun hc1 => ?_) (fun hc1 => ?_)
  refine mI (by first | omega | (constructor <;> omega)) ?_
  refine allB_mk (fun x1 => ?_)
  refine iI (fun hi2 => ?_) (fun _ => rfl)
  refine mI (by first | omega | (constructor <;> omega)) ?_
  refine allB_mk (fun x2 => ?_)
  refine iI (fun hi3 => ?_) (fun _ => rfl)
  refine iI (fun hc4 => ?_) (fun hc4 => ?_)
  refine iI (fun hc5 => ?_) (fun hc5 => ?_)
  refine iI (fun hc6 => ?_) (fun hc6 => ?_)
  refine iI (fun hc7 => ?_) (fun hc7 => ?_)
  refine iI (fun hc8 => ?_) (fun hc8 => ?_)
  refine mI (by simp only [InR] ; omega) ?_
  exact bk_l_rsame (q := ⟨p.h1, p.l1, p.h2, p.l2, p.i + (1 : Int)⟩) (by dsimp only [mu_l_rsame] ; omega) (by dsimp only [pre_l_rsame] ; refine ⟨g0, by omega, by omega, g3, take_step (by omega) g4 hi2 hi3 ?_⟩ ; show x1 = x2 ; obtain ⟨⟩ := x1 ; obtain ⟨⟩ := x2 ; simp_all) hK rfl
  exact ifB_use (show ¬ p.l1 = p.l2 from (by intro e ; rw [e] at hi2 ; have e2 := Option.some.inj (hi2.symm.trans hi3) ; subst e2 ; first | contradiction | omega | simp_all)) hK1
  exact ifB_use (show ¬ p.l1 = p.l2 from (by intro e ; rw [e] at hi2 ; have e2 := Option.some.inj (hi2.symm.trans hi3) ; subst e2 ; first | contradiction | omega | simp_all)) hK1
  exact ifB_use (show ¬ p.l1 = p.l2 from (by intro e ; rw [e] at hi2 ; have e2 := Option.some.inj (hi2.symm.trans hi3) ; subst e2 ; first | contradiction | omega | simp_all)) hK1
  exact ifB_use (show ¬ p.l1 = p.l2 from (by intro e ; rw [e] at hi2 ; have e2 := Option.some.inj (hi2.symm.trans hi3) ; subst e2 ; first | contradiction | omega | simp_all)) hK1
  exact ifB_use (show ¬ p.l1 = p.l2 from (by intro e ; rw [e] at hi2 ; have e2 := Option.some.inj (hi2.symm.trans hi3) ; subst e2 ; first | contradiction | omega | simp_all)) hK1
  exact ifB_use (show p.l1 = p.l2 from (by have e := take_end g4 (by omega) (by omega) ; simpa using e)) hK0
theorem lo_l_rsame : LpOk Tryd.prog 26 0 lp_rsame true 0 bd_l_rsame := by
  exact lp_of (lf := 600) ts_mix (cfT_ok nat_equalP_ok) (by rfl) I_l_rsame mu_l_rsame sp_l_rsame (fun b j x h => by cases h) (fun S M nx K h => by obtain ⟨p, h⟩ := exB_ok h; exact ⟨p, (mustP_ok h).1, (mustP_ok h).2⟩) (fun p K h => vb_l_rsame p K (mustP_ok h).1 (mustP_ok h).2)
structure A_rsame where
  h1 : Value
  l1 : List PtR
  h2 : Value
  l2 : List PtR
structure R_rsame where
  q : Prop
def po_rsame (p : A_rsame) (r : R_rsame) : Prop := r.q ↔ p.l1 = p.l2
noncomputable def I_rsame (p : A_rsame) : IE := ([.sy (.imm p.h1 5 PtR p.l1 encP), .sy (.imm p.h2 5 PtR p.l2 encP)], .leaf, 0)
noncomputable def out_rsame (p : A_rsame) (K : KE) : Bool := allB fun r : R_rsame => iP (po_rsame p r) (K (.sy (.bool r.q)) .leaf 0) true
def pre_rsame (p : A_rsame) : Prop := p.l1.length ≤ 1000000 ∧ p.l2.length ≤ 1000000
theorem fin_rsame {p : A_rsame} {K : KE} (hK : out_rsame p K = true) (r : R_rsame) (h : po_rsame p r) : K (.sy (.bool r.q)) .leaf 0 = true := ifB_use h (allB_ok hK r)
theorem vf_rsame (p : A_rsame) (K : KE) (hpre : pre_rsame p) (hK : out_rsame p K = true) : (funE 0 (cfT nat_equalP) lp_rsame 600 ft_rsame (I_rsame p).1 (I_rsame p).2.1 (I_rsame p).2.2 K) = true := by
  refine Eq.trans (b := (iP (¬ (p.l1.length : Int) = (p.l2.length : Int)) (K (.sy (.bool (false = true))) .leaf 0) (exB fun p1 : A_l_rsame => mP (((.cons 5 (.sy (.int 0 0)) (.cons 1 (.sy (.imm p.h2 5 PtR p.l2 encP)) (.cons 0 (.sy (.imm p.h1 5 PtR p.l1 encP)) .nil))), .leaf, 0) = I_l_rsame p1) (mP (pre_l_rsame p1) (must (iP (po_l_rsame p1) (K (.sy (.bool (true = true))) .leaf 0) true) (iP (po_l_rsame1 p1) (K (.sy (.bool (false = true))) .leaf 0) true)))))) (by kernel_rfl) ?_
  dsimp only [pre_rsame] at hpre
  obtain ⟨u1, u2⟩ := hpre
  refine iI (fun hc1 => ?_) (fun hc1 => ?_)
  exact fin_rsame hK ⟨false = true⟩ (by dsimp only [po_rsame] <;> (first | (simp ; done) | (simp ; assumption) | (simp ; intro e ; exact hc1 (by rw [e])) | simp_all))
  refine callP (⟨p.h1, p.l1, p.h2, p.l2, (0 : Int)⟩ : A_l_rsame) rfl (by (try dsimp only [pre_l_rsame]) ; refine ⟨by omega, by omega, by omega, by omega, rfl⟩) ?_
  refine must_mk ?_ ?_
  refine iI (p := p.l1 = p.l2) (fun hi2 => ?_) (fun _ => rfl)
  exact fin_rsame hK ⟨true = true⟩ (by dsimp only [po_rsame] <;> (first | (simp ; done) | (simp ; assumption) | (simp ; intro e ; exact hc1 (by rw [e])) | simp_all))
  refine iI (p := ¬ p.l1 = p.l2) (fun hi3 => ?_) (fun _ => rfl)
  exact fin_rsame hK ⟨false = true⟩ (by dsimp only [po_rsame] <;> (first | (simp ; done) | (simp ; assumption) | (simp ; intro e ; exact hc1 (by rw [e])) | simp_all))
noncomputable def nat_rsame := natC nat_equalP 0 (esOf I_rsame (spP pre_rsame out_rsame)) 63 [(0, 23), (1, 23)]
theorem nat_rsame_ok : NatsOk Tryd.prog nat_rsame := natC_ok (natE_said (f := 63) (k := 0) (lp := lp_rsame) (lf := 600) ts_mix (cfT_ok nat_equalP_ok) ft_rsame_ok (by rfl) (fun b j x h => (mem_step lo_l_rsame (fun h => (by cases h)) h)) fun p K h => vf_rsame p K (mustP_ok h).1 (mustP_ok h).2) nat_equalP_ok
end Go.Proofs.Tryd
namespace Go.Proofs.Tryd
open Go.Proofs.YtdangmomddpegaaDoor (na_idx na_dig na_digL na_fmtU spIdx)
open Go Go.RowKit Go.Sy
open Go.Eng hiding allB
set_option maxRecDepth 1000000
set_option linter.unusedVariables false
set_option maxHeartbeats 4000000
def plainP (s : List UInt8) : Prop := s ≠ [] ∧ ∀ b ∈ s, Lib.okc b.toNat = true
def okx (x : Nat) : Prop := (97 ≤ x ∧ x ≤ 122) ∨ (48 ≤ x ∧ x ≤ 57)
theorem okc_iff (x : Nat) : Lib.okc x = true ↔ okx x := by
  have h := Go.Proofs.YtdangmomddpegaaDoor.odd_iff x
  unfold Lib.oddB at h
  unfold okx
  cases hc : Lib.okc x
  · rw [hc] at h; simp at h ⊢; omega
  · rw [hc] at h; simp at h ⊢; omega
def okPre (s : List UInt8) (i : Int) : Prop := ∀ j : Nat, (j : Int) < i → j < s.length → okx (s.getD j 0).toNat
theorem okPre_step {s : List UInt8} {i : Int} (h : okPre s i) (h0 : 0 ≤ i) (h1 : okx (s.getD i.toNat 0).toNat) : okPre s (i + 1) := fun j hj hl => by
  by_cases e : (j : Int) = i
  · have : j = i.toNat := by omega
    subst this; exact h1
  · exact h j (by omega) hl
theorem okPre_end {s : List UInt8} {i : Int} (h : okPre s i) (h1 : (s.length : Int) ≤ i) : ∀ b ∈ s, Lib.okc b.toNat = true := fun b hb => by
  obtain ⟨j, hj⟩ := List.mem_iff_getElem?.1 hb
  obtain ⟨h2, h3⟩ := List.getElem?_eq_some_iff.1 hj
  rw [okc_iff]
  have := h j (by omega) h2
  simpa [List.getD, hj] using this
theorem ok_at {s : List UInt8} {i : Nat} (h : ∀ b ∈ s, Lib.okc b.toNat = true) (h1 : i < s.length) : okx (s.getD i 0).toNat := by
  have := (okc_iff _).1 (h s[i] (List.getElem_mem h1))
  simpa [List.getD, h1] using this
def partR (p : PtR) : Prop := p.g < 4 ∧ p.key ≠ [] ∧ p.key.length ≤ 16 ∧ ((p.k = 1 ∧ p.val.length ≤ 64 ∧ p.n = 0) ∨ ((p.k = 2 ∨ p.k = 3) ∧ p.val = [] ∧ 0 ≤ p.n) ∨ ((p.k = 0 ∨ p.k = 4) ∧ p.val = [] ∧ p.n = 0))
theorem partR_len {p : PtR} (h : partR p) : p.key.length ≤ 16 ∧ p.val.length ≤ 64 := by
  obtain ⟨_, _, h1, h2⟩ := h
  refine ⟨h1, ?_⟩
  rcases h2 with ⟨_, h2, _⟩ | ⟨_, h2, _⟩ | ⟨_, h2, _⟩
  · exact h2
  · rw [h2]; simp
  · rw [h2]; simp
def spokenR (p : PtR) : Prop := partR p ∧ plainP p.key ∧ (p.k = 1 → plainP p.val)
def rgP (p : PtR) : Prop := (0 ≤ p.g ∧ p.g ≤ 255) ∧ (0 ≤ p.k ∧ p.k ≤ 255) ∧ -9223372036854775808 ≤ p.n ∧ p.n ≤ 9223372036854775807
theorem all_step {α : Type} {R : α → Prop} {l : List α} {i : Int} {x : α} (h : ∀ (j : Nat) y, (j : Int) < i → l[j]? = some y → R y) (h0 : 0 ≤ i) (hx : l[i.toNat]? = some x) (h1 : R x) : ∀ (j : Nat) y, (j : Int) < i + 1 → l[j]? = some y → R y := fun j y hj hy => by
  by_cases e : (j : Int) = i
  · have : j = i.toNat := by omega
    subst this
    rw [hx] at hy; cases hy; exact h1
  · exact h j y (by omega) hy
theorem all_end {α : Type} {R : α → Prop} {l : List α} {i : Int} (h : ∀ (j : Nat) y, (j : Int) < i → l[j]? = some y → R y) (h1 : (l.length : Int) ≤ i) : ∀ x ∈ l, R x := fun x hx => by
  obtain ⟨j, hj⟩ := List.mem_iff_getElem?.1 hx
  exact h j x (by have := (List.getElem?_eq_some_iff.1 hj).1; omega) hj
theorem all_no {α : Type} {R : α → Prop} {l : List α} {i : Nat} {x : α} (hx : l[i]? = some x) (h : ¬ R x) : ¬ ∀ x ∈ l, R x := fun q => h (q x (List.mem_of_getElem? hx))
noncomputable def fnB (us : List AV) (i f : Nat) : Bool := match nth us i with
  | some (.fn g []) => Nat.beq g f
  | _ => false
noncomputable def nat_n_idx := natC nat_rsame 0 (spIdx 86) 87 []
theorem nat_n_idx_ok : NatsOk Tryd.prog nat_n_idx := natC_ok na_idx nat_rsame_ok
noncomputable def nat_n_dig := natC nat_n_idx 0 (spN1 4 Lib.itoa) 47 [(0, 20)]
theorem nat_n_dig_ok : NatsOk Tryd.prog nat_n_dig := natC_ok na_dig nat_n_idx_ok
noncomputable def nat_n_digL := natC nat_n_dig 0 (spNL 4 100000000000000000000 tl0) 47 [(0, 1)]
theorem nat_n_digL_ok : NatsOk Tryd.prog nat_n_digL := natC_ok na_digL nat_n_dig_ok
noncomputable def nat_n_fmtU := natC nat_n_digL 0 (spN2 4 10 Lib.itoa) 67 []
theorem nat_n_fmtU_ok : NatsOk Tryd.prog nat_n_fmtU := natC_ok na_fmtU nat_n_digL_ok
def ft_plain : XF := .mk 12 (.one 2) (.aft (.seq (g_ 1 [p_ 0 2 (.mv (.c (.bool false)))]) (.seq (g_ 1 [p_ 0 3 (.mv (.f 86))]) (.seq (g_ 9 [p_ 0 4 (m_ 0), p_ 1 5 (.bin 5 1 (.t 4) (.c (.str []))), p_ 2 6 (m_ 5), pg_ 3 7 6 true (m_ 0), pg_ 4 8 6 true (m_ 3), cg_ 5 9 6 true 87 [.t 7, .t 8], pg_ 6 10 6 true (.bin 3 0 (.t 9) (i_ 0)), p_ 7 11 (.pick (.t 6) (.t 10) (.c (.bool false))), p_ 8 2 (m_ 11)]) .ret))) [(0, [.up 2]), (1, [.up 2])])
theorem ft_plain_ok : chkF Tryd.prog 75 ft_plain = true := by kernel_rfl
structure A_plain where
  s : List UInt8
structure R_plain where
  q : Prop
def po_plain (p : A_plain) (r : R_plain) : Prop := r.q ↔ plainP p.s
noncomputable def I_plain (p : A_plain) : IE := ([.sy (.str p.s)], .leaf, 0)
noncomputable def out_plain (p : A_plain) (K : KE) : Bool := allB fun r : R_plain => iP (po_plain p r) (K (.sy (.bool r.q)) .leaf 0) true
theorem fin_plain {p : A_plain} {K : KE} (hK : out_plain p K = true) (r : R_plain) (h : po_plain p r) : K (.sy (.bool r.q)) .leaf 0 = true := ifB_use h (allB_ok hK r)
theorem vf_plain (p : A_plain) (K : KE) (hK : out_plain p K = true) : (funE 0 (cfT nat_n_fmtU) noLp 600 ft_plain (I_plain p).1 (I_plain p).2.1 (I_plain p).2.2 K) = true := by
  refine Eq.trans (b := (iP (¬ p.s = (([] : List Nat).map UInt8.ofNat)) (K (.sy (.bool ((Lib.idxFunc Lib.oddB true ⟨p.s.toArray⟩) < (0 : Int)))) .leaf 0) (K (.sy (.bool (false = true))) .leaf 0))) (by kernel_rfl) ?_
  refine iI (fun hc1 => ?_) (fun hc1 => ?_)
  exact fin_plain hK ⟨(Lib.idxFunc Lib.oddB true ⟨p.s.toArray⟩) < (0 : Int)⟩ (by dsimp only [po_plain] <;> (unfold plainP ; first | (rw [Lib.idx_neg] ; simp_all ; done) | simp_all))
  exact fin_plain hK ⟨false = true⟩ (by dsimp only [po_plain] <;> (unfold plainP ; first | (rw [Lib.idx_neg] ; simp_all ; done) | simp_all))
noncomputable def nat_plain := natC nat_n_fmtU 0 (esOf I_plain out_plain) 75 [(0, 22)]
theorem nat_plain_ok : NatsOk Tryd.prog nat_plain := natC_ok (natE_pn (f := 75) (k := 0) (cfT_ok nat_n_fmtU_ok) ft_plain_ok (by rfl) (by rfl) vf_plain) nat_n_fmtU_ok
def ft_partRight : XF := .mk 21 (.one 2) (.aft (.seq (g_ 2 [e_ 0 1 (.box 100 (.t 0)), p_ 1 2 (.mv (.c (.bool false)))]) (.seq (g_ 19 [p_ 0 3 (f_ 0 1), r_ 1 4 (l_ 3), p_ 2 5 (.bin 3 0 (.t 4) (.c (.int 1 (.ofNat 4)))), p_ 3 6 (m_ 5), pg_ 4 7 6 true (f_ 2 1), rg_ 5 8 6 true (l_ 7), pg_ 6 9 6 true (.bin 5 1 (.t 8) (.c (.str []))), p_ 7 10 (.pick (.t 6) (.t 9) (.c (.bool false))), p_ 8 11 (m_ 10), pg_ 9 12 11 true (f_ 2 1), rg_ 10 13 11 true (l_ 12), pg_ 11 14 11 true (.len 0 (.t 13)), pg_ 12 15 11 true (.bin 3 1 (.t 14) (i_ 16)), p_ 13 16 (.pick (.t 11) (.t 15) (.c (.bool false))), p_ 14 17 (m_ 16), rg_ 15 18 17 true (.ld true 5 (.t 1)), cg_ 16 19 17 true 85 [.t 18], p_ 17 20 (.pick (.t 17) (.t 19) (.c (.bool false))), p_ 18 2 (m_ 20)]) .ret)) [(0, [.up 2]), (1, [.up 2])])
theorem ft_partRight_ok : chkF Tryd.prog 73 ft_partRight = true := by kernel_rfl
structure A_partRight where
  p : PtR
structure R_partRight where
  q : Prop
def po_partRight (p : A_partRight) (r : R_partRight) : Prop := r.q ↔ partR p.p
noncomputable def I_partRight (p : A_partRight) : IE := ([.agg [.sy (.int 1 p.p.g), .sy (.int 1 p.p.k), .sy (.str p.p.key), .sy (.str p.p.val), .sy (.int 0 p.p.n)]], .leaf, 0)
noncomputable def out_partRight (p : A_partRight) (K : KE) : Bool := allB fun r : R_partRight => iP (po_partRight p r) (K (.sy (.bool r.q)) .leaf 0) true
theorem fin_partRight {p : A_partRight} {K : KE} (hK : out_partRight p K = true) (r : R_partRight) (h : po_partRight p r) : K (.sy (.bool r.q)) .leaf 0 = true := ifB_use h (allB_ok hK r)
theorem vf_partRight (p : A_partRight) (K : KE) (hK : out_partRight p K = true) : (funE 0 (cfT nat_plain) noLp 600 ft_partRight (I_partRight p).1 (I_partRight p).2.1 (I_partRight p).2.2 K) = true := by
  refine Eq.trans (b := (let z0 : Bool := (K (.sy (.bool (false = true))) .leaf 0); let z1 : Bool := (K (.sy (.bool (p.p.n = (0 : Int)))) .leaf 0); iP (p.p.g < (4 : Int)) (iP (¬ p.p.key = (([] : List Nat).map UInt8.ofNat)) (iP ((p.p.key.length : Int) ≤ (16 : Int)) (iP (p.p.k = (1 : Int)) (iP ((p.p.val.length : Int) ≤ (64 : Int)) z1 z0) (iP (p.p.k = (2 : Int)) (iP (p.p.val = (([] : List Nat).map UInt8.ofNat)) (K (.sy (.bool ((0 : Int) ≤ p.p.n))) .leaf 0) z0) (iP (p.p.k = (3 : Int)) (iP (p.p.val = (([] : List Nat).map UInt8.ofNat)) (K (.sy (.bool ((0 : Int) ≤ p.p.n))) .leaf 0) z0) (iP (p.p.k = (0 : Int)) (iP (p.p.val = (([] : List Nat).map UInt8.ofNat)) z1 z0) (iP (p.p.k = (4 : Int)) (iP (p.p.val = (([] : List Nat).map UInt8.ofNat)) z1 z0) z0))))) z0) z0) z0)) (by kernel_rfl) ?_
  refine iI (fun hc1 => ?_) (fun hc1 => ?_)
  refine iI (fun hc2 => ?_) (fun hc2 => ?_)
  refine iI (fun hc3 => ?_) (fun hc3 => ?_)
  refine iI (fun hc4 => ?_) (fun hc4 => ?_)
  refine iI (fun hc5 => ?_) (fun hc5 => ?_)
  exact fin_partRight hK ⟨p.p.n = (0 : Int)⟩ (by dsimp only [po_partRight] <;> (unfold partR ; first | (simp_all ; done) | (simp_all ; omega) | (constructor <;> intro h <;> simp_all <;> omega) | (cases hk : p.p.key <;> cases hv : p.p.val <;> simp_all <;> omega)))
  exact fin_partRight hK ⟨false = true⟩ (by dsimp only [po_partRight] <;> (unfold partR ; first | (simp_all ; done) | (simp_all ; omega) | (constructor <;> intro h <;> simp_all <;> omega) | (cases hk : p.p.key <;> cases hv : p.p.val <;> simp_all <;> omega)))
  refine iI (fun hc6 => ?_) (fun hc6 => ?_)
  refine iI (fun hc7 => ?_) (fun hc7 => ?_)
  exact fin_partRight hK ⟨(0 : Int) ≤ p.p.n⟩ (by dsimp only [po_partRight] <;> (unfold partR ; first | (simp_all ; done) | (simp_all ; omega) | (constructor <;> intro h <;> simp_all <;> omega) | (cases hk : p.p.key <;> cases hv : p.p.val <;> simp_all <;> omega)))
  exact fin_partRight hK ⟨false = true⟩ (by dsimp only [po_partRight] <;> (unfold partR ; first | (simp_all ; done) | (simp_all ; omega) | (constructor <;> intro h <;> simp_all <;> omega) | (cases hk : p.p.key <;> cases hv : p.p.val <;> simp_all <;> omega)))
  refine iI (fun hc8 => ?_) (fun hc8 => ?_)
  refine iI (fun hc9 => ?_) (fun hc9 => ?_)
  exact fin_partRight hK ⟨(0 : Int) ≤ p.p.n⟩ (by dsimp only [po_partRight] <;> (unfold partR ; first | (simp_all ; done) | (simp_all ; omega) | (constructor <;> intro h <;> simp_all <;> omega) | (cases hk : p.p.key <;> cases hv : p.p.val <;> simp_all <;> omega)))
  exact fin_partRight hK ⟨false = true⟩ (by dsimp only [po_partRight] <;> (unfold partR ; first | (simp_all ; done) | (simp_all ; omega) | (constructor <;> intro h <;> simp_all <;> omega) | (cases hk : p.p.key <;> cases hv : p.p.val <;> simp_all <;> omega)))
  refine iI (fun hc10 => ?_) (fun hc10 => ?_)
  refine iI (fun hc11 => ?_) (fun hc11 => ?_)
  exact fin_partRight hK ⟨p.p.n = (0 : Int)⟩ (by dsimp only [po_partRight] <;> (unfold partR ; first | (simp_all ; done) | (simp_all ; omega) | (constructor <;> intro h <;> simp_all <;> omega) | (cases hk : p.p.key <;> cases hv : p.p.val <;> simp_all <;> omega)))
  exact fin_partRight hK ⟨false = true⟩ (by dsimp only [po_partRight] <;> (unfold partR ; first | (simp_all ; done) | (simp_all ; omega) | (constructor <;> intro h <;> simp_all <;> omega) | (cases hk : p.p.key <;> cases hv : p.p.val <;> simp_all <;> omega)))
  refine iI (fun hc12 => ?_) (fun hc12 => ?_)
  refine iI (fun hc13 => ?_) (fun hc13 => ?_)
  exact fin_partRight hK ⟨p.p.n = (0 : Int)⟩ (by dsimp only [po_partRight] <;> (unfold partR ; first | (simp_all ; done) | (simp_all ; omega) | (constructor <;> intro h <;> simp_all <;> omega) | (cases hk : p.p.key <;> cases hv : p.p.val <;> simp_all <;> omega)))
  exact fin_partRight hK ⟨false = true⟩ (by dsimp only [po_partRight] <;> (unfold partR ; first | (simp_all ; done) | (simp_all ; omega) | (constructor <;> intro h <;> simp_all <;> omega) | (cases hk : p.p.key <;> cases hv : p.p.val <;> simp_all <;> omega)))
  exact fin_partRight hK ⟨false = true⟩ (by dsimp only [po_partRight] <;> (unfold partR ; first | (simp_all ; done) | (simp_all ; omega) | (constructor <;> intro h <;> simp_all <;> omega) | (cases hk : p.p.key <;> cases hv : p.p.val <;> simp_all <;> omega)))
  exact fin_partRight hK ⟨false = true⟩ (by dsimp only [po_partRight] <;> (unfold partR ; first | (simp_all ; done) | (simp_all ; omega) | (constructor <;> intro h <;> simp_all <;> omega) | (cases hk : p.p.key <;> cases hv : p.p.val <;> simp_all <;> omega)))
  exact fin_partRight hK ⟨false = true⟩ (by dsimp only [po_partRight] <;> (unfold partR ; first | (simp_all ; done) | (simp_all ; omega) | (constructor <;> intro h <;> simp_all <;> omega) | (cases hk : p.p.key <;> cases hv : p.p.val <;> simp_all <;> omega)))
  exact fin_partRight hK ⟨false = true⟩ (by dsimp only [po_partRight] <;> (unfold partR ; first | (simp_all ; done) | (simp_all ; omega) | (constructor <;> intro h <;> simp_all <;> omega) | (cases hk : p.p.key <;> cases hv : p.p.val <;> simp_all <;> omega)))
noncomputable def nat_partRight := natC nat_plain 0 (esOf I_partRight out_partRight) 73 [(0, 15)]
theorem nat_partRight_ok : NatsOk Tryd.prog nat_partRight := natC_ok (natE_pn (f := 73) (k := 0) (cfT_ok nat_plain_ok) ft_partRight_ok (by rfl) (by rfl) vf_partRight) nat_plain_ok
def ft_rpR : XF := .mk 59 (.one 2) (.aft (.seq (g_ 2 [e_ 0 1 (.box 111 (.t 0)), p_ 1 2 (.mv (.c (.bool false)))]) (.seq (g_ 57 [p_ 0 3 (f_ 0 1), r_ 1 4 (l_ 3), p_ 2 5 (.bin 3 0 (.t 4) (.c (.int 1 (.ofNat 4)))), p_ 3 6 (m_ 5), pg_ 4 7 6 true (f_ 1 1), rg_ 5 8 6 true (l_ 7), pg_ 6 9 6 true (.bin 3 1 (.t 8) (.c (.int 1 (.ofNat 4)))), p_ 7 10 (.pick (.t 6) (.t 9) (.c (.bool false))), p_ 8 11 (m_ 10), pg_ 9 12 11 true (f_ 2 1), rg_ 10 13 11 true (l_ 12), pg_ 11 14 11 true (.len 0 (.t 13)), pg_ 12 15 11 true (.bin 3 3 (.t 14) (i_ 1)), p_ 13 16 (.pick (.t 11) (.t 15) (.c (.bool false))), p_ 14 17 (m_ 16), pg_ 15 18 17 true (f_ 2 1), rg_ 16 19 17 true (l_ 18), pg_ 17 20 17 true (.len 0 (.t 19)), pg_ 18 21 17 true (.bin 3 1 (.t 20) (i_ 16)), p_ 19 22 (.pick (.t 17) (.t 21) (.c (.bool false))), p_ 20 23 (m_ 22), pg_ 21 24 23 true (f_ 3 1), rg_ 22 25 23 true (l_ 24), pg_ 23 26 23 true (.len 0 (.t 25)), pg_ 24 27 23 true (.bin 3 1 (.t 26) (i_ 64)), p_ 25 28 (.pick (.t 23) (.t 27) (.c (.bool false))), p_ 26 29 (m_ 28), pg_ 27 30 29 true (f_ 1 1), rg_ 28 31 29 true (l_ 30), pg_ 29 32 29 true (.bin 3 4 (.t 31) (.c (.int 1 (.ofNat 1)))), pg_ 30 33 29 true (m_ 32), pg_ 31 34 33 false (f_ 3 1), rg_ 32 35 33 false (l_ 34), pg_ 33 36 33 false (.bin 5 0 (.t 35) (.c (.str []))), pg_ 34 37 29 true (.pick (.t 33) (.c (.bool true)) (.t 36)), p_ 35 38 (.pick (.t 29) (.t 37) (.c (.bool false))), p_ 36 39 (m_ 38), pg_ 37 40 39 true (f_ 4 1), rg_ 38 41 39 true (l_ 40), pg_ 39 42 39 true (.bin 3 3 (.t 41) (i_ 0)), p_ 40 43 (.pick (.t 39) (.t 42) (.c (.bool false))), p_ 41 44 (m_ 43), pg_ 42 45 44 true (f_ 1 1), rg_ 43 46 44 true (l_ 45), pg_ 44 47 44 true (.bin 3 4 (.t 46) (.c (.int 1 (.ofNat 2)))), pg_ 45 48 44 true (m_ 47), pg_ 46 49 48 false (f_ 1 1), rg_ 47 50 48 false (l_ 49), pg_ 48 51 48 false (.bin 3 4 (.t 50) (.c (.int 1 (.ofNat 3)))), pg_ 49 52 44 true (.pick (.t 48) (.c (.bool true)) (.t 51)), pg_ 50 53 44 true (m_ 52), pg_ 51 54 53 false (f_ 4 1), rg_ 52 55 53 false (l_ 54), pg_ 53 56 53 false (.bin 3 4 (.t 55) (i_ 0)), pg_ 54 57 44 true (.pick (.t 53) (.c (.bool true)) (.t 56)), p_ 55 58 (.pick (.t 44) (.t 57) (.c (.bool false))), p_ 56 2 (m_ 58)]) .ret)) [(0, [.up 2]), (1, [.up 2])])
theorem ft_rpR_ok : chkF Tryd.prog 76 ft_rpR = true := by kernel_rfl
structure A_rpR where
  p : PtR
structure R_rpR where
  q : Prop
def po_rpR (p : A_rpR) (r : R_rpR) : Prop := r.q ↔ partR p.p
noncomputable def I_rpR (p : A_rpR) : IE := ([.agg [.sy (.int 1 p.p.g), .sy (.int 1 p.p.k), .sy (.str p.p.key), .sy (.str p.p.val), .sy (.int 0 p.p.n)]], .leaf, 0)
noncomputable def out_rpR (p : A_rpR) (K : KE) : Bool := allB fun r : R_rpR => iP (po_rpR p r) (K (.sy (.bool r.q)) .leaf 0) true
def pre_rpR (p : A_rpR) : Prop := rgP p.p
theorem fin_rpR {p : A_rpR} {K : KE} (hK : out_rpR p K = true) (r : R_rpR) (h : po_rpR p r) : K (.sy (.bool r.q)) .leaf 0 = true := ifB_use h (allB_ok hK r)
theorem vf_rpR (p : A_rpR) (K : KE) (hpre : pre_rpR p) (hK : out_rpR p K = true) : (funE 0 (cfT nat_partRight) noLp 600 ft_rpR (I_rpR p).1 (I_rpR p).2.1 (I_rpR p).2.2 K) = true := by
  refine Eq.trans (b := (let z0 : Bool := (K (.sy (.bool (false = true))) .leaf 0); let z1 : Bool := (K (.sy (.bool (true = true))) .leaf 0); iP (p.p.g < (4 : Int)) (iP (p.p.k ≤ (4 : Int)) (iP ((1 : Int) ≤ (p.p.key.length : Int)) (iP ((p.p.key.length : Int) ≤ (16 : Int)) (iP ((p.p.val.length : Int) ≤ (64 : Int)) (iP (p.p.k = (1 : Int)) (iP ((0 : Int) ≤ p.p.n) (iP (p.p.k = (2 : Int)) z1 (iP (p.p.k = (3 : Int)) z1 (K (.sy (.bool (p.p.n = (0 : Int)))) .leaf 0))) z0) (iP (p.p.val = (([] : List Nat).map UInt8.ofNat)) (iP ((0 : Int) ≤ p.p.n) (iP (p.p.k = (2 : Int)) z1 (iP (p.p.k = (3 : Int)) z1 (K (.sy (.bool (p.p.n = (0 : Int)))) .leaf 0))) z0) z0)) z0) z0) z0) z0) z0)) (by kernel_rfl) ?_
  dsimp only [pre_rpR] at hpre
  unfold rgP at hpre
  refine iI (fun hc1 => ?_) (fun hc1 => ?_)
  refine iI (fun hc2 => ?_) (fun hc2 => ?_)
  refine iI (fun hc3 => ?_) (fun hc3 => ?_)
  refine iI (fun hc4 => ?_) (fun hc4 => ?_)
  refine iI (fun hc5 => ?_) (fun hc5 => ?_)
  refine iI (fun hc6 => ?_) (fun hc6 => ?_)
  refine iI (fun hc7 => ?_) (fun hc7 => ?_)
  refine iI (fun hc8 => ?_) (fun hc8 => ?_)
  exact fin_rpR hK ⟨true = true⟩ (by dsimp only [po_rpR] <;> (unfold partR ; first | (simp_all ; done) | (simp_all ; omega) | (constructor <;> intro h <;> simp_all <;> omega) | (cases hk : p.p.key <;> cases hv : p.p.val <;> simp_all <;> omega)))
  refine iI (fun hc9 => ?_) (fun hc9 => ?_)
  exact fin_rpR hK ⟨true = true⟩ (by dsimp only [po_rpR] <;> (unfold partR ; first | (simp_all ; done) | (simp_all ; omega) | (constructor <;> intro h <;> simp_all <;> omega) | (cases hk : p.p.key <;> cases hv : p.p.val <;> simp_all <;> omega)))
  exact fin_rpR hK ⟨p.p.n = (0 : Int)⟩ (by dsimp only [po_rpR] <;> (unfold partR ; first | (simp_all ; done) | (simp_all ; omega) | (constructor <;> intro h <;> simp_all <;> omega) | (cases hk : p.p.key <;> cases hv : p.p.val <;> simp_all <;> omega)))
  exact fin_rpR hK ⟨false = true⟩ (by dsimp only [po_rpR] <;> (unfold partR ; first | (simp_all ; done) | (simp_all ; omega) | (constructor <;> intro h <;> simp_all <;> omega) | (cases hk : p.p.key <;> cases hv : p.p.val <;> simp_all <;> omega)))
  refine iI (fun hc10 => ?_) (fun hc10 => ?_)
  refine iI (fun hc11 => ?_) (fun hc11 => ?_)
  refine iI (fun hc12 => ?_) (fun hc12 => ?_)
  exact fin_rpR hK ⟨true = true⟩ (by dsimp only [po_rpR] <;> (unfold partR ; first | (simp_all ; done) | (simp_all ; omega) | (constructor <;> intro h <;> simp_all <;> omega) | (cases hk : p.p.key <;> cases hv : p.p.val <;> simp_all <;> omega)))
  refine iI (fun hc13 => ?_) (fun hc13 => ?_)
  exact fin_rpR hK ⟨true = true⟩ (by dsimp only [po_rpR] <;> (unfold partR ; first | (simp_all ; done) | (simp_all ; omega) | (constructor <;> intro h <;> simp_all <;> omega) | (cases hk : p.p.key <;> cases hv : p.p.val <;> simp_all <;> omega)))
  exact fin_rpR hK ⟨p.p.n = (0 : Int)⟩ (by dsimp only [po_rpR] <;> (unfold partR ; first | (simp_all ; done) | (simp_all ; omega) | (constructor <;> intro h <;> simp_all <;> omega) | (cases hk : p.p.key <;> cases hv : p.p.val <;> simp_all <;> omega)))
  exact fin_rpR hK ⟨false = true⟩ (by dsimp only [po_rpR] <;> (unfold partR ; first | (simp_all ; done) | (simp_all ; omega) | (constructor <;> intro h <;> simp_all <;> omega) | (cases hk : p.p.key <;> cases hv : p.p.val <;> simp_all <;> omega)))
  exact fin_rpR hK ⟨false = true⟩ (by dsimp only [po_rpR] <;> (unfold partR ; first | (simp_all ; done) | (simp_all ; omega) | (constructor <;> intro h <;> simp_all <;> omega) | (cases hk : p.p.key <;> cases hv : p.p.val <;> simp_all <;> omega)))
  exact fin_rpR hK ⟨false = true⟩ (by dsimp only [po_rpR] <;> (unfold partR ; first | (simp_all ; done) | (simp_all ; omega) | (constructor <;> intro h <;> simp_all <;> omega) | (cases hk : p.p.key <;> cases hv : p.p.val <;> simp_all <;> omega)))
  exact fin_rpR hK ⟨false = true⟩ (by dsimp only [po_rpR] <;> (unfold partR ; first | (simp_all ; done) | (simp_all ; omega) | (constructor <;> intro h <;> simp_all <;> omega) | (cases hk : p.p.key <;> cases hv : p.p.val <;> simp_all <;> omega)))
  exact fin_rpR hK ⟨false = true⟩ (by dsimp only [po_rpR] <;> (unfold partR ; first | (simp_all ; done) | (simp_all ; omega) | (constructor <;> intro h <;> simp_all <;> omega) | (cases hk : p.p.key <;> cases hv : p.p.val <;> simp_all <;> omega)))
  exact fin_rpR hK ⟨false = true⟩ (by dsimp only [po_rpR] <;> (unfold partR ; first | (simp_all ; done) | (simp_all ; omega) | (constructor <;> intro h <;> simp_all <;> omega) | (cases hk : p.p.key <;> cases hv : p.p.val <;> simp_all <;> omega)))
  exact fin_rpR hK ⟨false = true⟩ (by dsimp only [po_rpR] <;> (unfold partR ; first | (simp_all ; done) | (simp_all ; omega) | (constructor <;> intro h <;> simp_all <;> omega) | (cases hk : p.p.key <;> cases hv : p.p.val <;> simp_all <;> omega)))
noncomputable def nat_rpR := natC nat_partRight 0 (esOf I_rpR (spP pre_rpR out_rpR)) 76 [(0, 15)]
theorem nat_rpR_ok : NatsOk Tryd.prog nat_rpR := natC_ok (natE_pl (f := 76) (k := 0) (cfT_ok nat_partRight_ok) ft_rpR_ok (by rfl) (by rfl) vf_rpR) nat_partRight_ok
def ft_rplain : XF := .mk 35 (.one 2) (.aft (.seq (g_ 1 [p_ 0 2 (.mv (.c (.bool false)))]) (.seq (.seq (g_ 1 [p_ 0 3 (.mv (i_ 0))]) (.block 2 (.pre [.can 0 [0, 3], .up 3, .can 0 [0, 3]] (.inv 0 (.aft (.seq (.seq (g_ 4 [p_ 0 4 (m_ 3), p_ 1 5 (m_ 0), p_ 2 6 (.len 0 (.t 5)), p_ 3 7 (.bin 3 0 (.t 4) (.t 6))]) (.cond (.t 7) .skip (.exit 2))) (.seq (.block 3 (.seq (g_ 23 [p_ 0 10 (m_ 0), p_ 1 11 (m_ 3), p_ 2 12 (.six (.t 10) (.t 11)), p_ 3 13 (.bin 3 3 (.t 12) (.c (.int 1 (.ofNat 97)))), p_ 4 14 (m_ 13), pg_ 5 15 14 true (m_ 0), pg_ 6 16 14 true (m_ 3), pg_ 7 17 14 true (.six (.t 15) (.t 16)), pg_ 8 18 14 true (.bin 3 1 (.t 17) (.c (.int 1 (.ofNat 122)))), p_ 9 19 (.pick (.t 14) (.t 18) (.c (.bool false))), p_ 10 20 (m_ 19), pg_ 11 21 20 false (m_ 0), pg_ 12 22 20 false (m_ 3), pg_ 13 23 20 false (.six (.t 21) (.t 22)), pg_ 14 24 20 false (.bin 3 3 (.t 23) (.c (.int 1 (.ofNat 48)))), pg_ 15 25 20 false (m_ 24), pg_ 16 26 25 true (m_ 0), pg_ 17 27 25 true (m_ 3), pg_ 18 28 25 true (.six (.t 26) (.t 27)), pg_ 19 29 25 true (.bin 3 1 (.t 28) (.c (.int 1 (.ofNat 57)))), pg_ 20 30 20 false (.pick (.t 25) (.t 29) (.c (.bool false))), p_ 21 31 (.pick (.t 20) (.c (.bool true)) (.t 30)), p_ 22 32 (.un 0 (.t 31))]) (.cond (.t 32) (.seq (g_ 1 [p_ 0 2 (.mv (.c (.bool false)))]) .ret) .skip))) (g_ 3 [p_ 0 8 (m_ 3), p_ 1 9 (.bin 0 0 (.t 8) (i_ 1)), p_ 2 3 (m_ 9)]))) [(0, [.can 0 [0, 3]]), (1, [.can 0 [2]]), (2, [.can 0 [0]])]))))) (.seq (g_ 3 [p_ 0 33 (m_ 0), p_ 1 34 (.bin 5 1 (.t 33) (.c (.str []))), p_ 2 2 (m_ 34)]) .ret))) [(0, [.up 2]), (1, [.up 2])])
theorem ft_rplain_ok : chkF Tryd.prog 77 ft_rplain = true := by kernel_rfl
structure A_l_rplain where
  s : List UInt8
  i : Int
def po_l_rplain (p : A_l_rplain) : Prop := ∀ b ∈ p.s, Lib.okc b.toNat = true
def po_l_rplain1 (p : A_l_rplain) : Prop := ¬ ∀ b ∈ p.s, Lib.okc b.toNat = true
noncomputable def I_l_rplain (p : A_l_rplain) : IL := ((.cons 3 (.sy (.int 0 p.i)) (.cons 0 (.sy (.str p.s)) .nil)), .leaf, 0)
noncomputable def out_l_rplain (p : A_l_rplain) (K : KC) : Bool := must (iP (po_l_rplain p) (K 2 (.cons 0 (.sy (.str p.s)) .nil) .leaf 0) true) (iP (po_l_rplain1 p) (K 1 (.cons 2 (.bool false) .nil) .leaf 0) true)
def pre_l_rplain (p : A_l_rplain) : Prop := p.s.length ≤ 1000000 ∧ 0 ≤ p.i ∧ p.i ≤ (p.s.length : Int) ∧ okPre p.s p.i
noncomputable def sp_l_rplain (p : A_l_rplain) (K : KC) : Bool := must (prB (pre_l_rplain p)) (out_l_rplain p K)
noncomputable def lp_rplain : LpF := fun j S M nx K => (Bool.rec (false) (exB fun p : A_l_rplain => must (prB ((S, M, nx) = I_l_rplain p)) (sp_l_rplain p K)) (Nat.beq j 0))
def mu_l_rplain (p : A_l_rplain) : Nat := ((p.s.length : Int) - p.i).toNat
theorem bk_l_rplain {p q : A_l_rplain} {K : KC} {s : IL} (hm : mu_l_rplain q < mu_l_rplain p) (hp : pre_l_rplain q) (hK : out_l_rplain q K = true) (e : s = I_l_rplain q) : (exB fun q => mP (s = I_l_rplain q ∧ mu_l_rplain q < mu_l_rplain p) (sp_l_rplain q K)) = true := exB_mk q (mustP ⟨e, hm⟩ (mustP hp hK))
def bd_l_rplain : XC := (.aft (.seq (.seq (g_ 4 [p_ 0 4 (m_ 3), p_ 1 5 (m_ 0), p_ 2 6 (.len 0 (.t 5)), p_ 3 7 (.bin 3 0 (.t 4) (.t 6))]) (.cond (.t 7) .skip (.exit 2))) (.seq (.block 3 (.seq (g_ 23 [p_ 0 10 (m_ 0), p_ 1 11 (m_ 3), p_ 2 12 (.six (.t 10) (.t 11)), p_ 3 13 (.bin 3 3 (.t 12) (.c (.int 1 (.ofNat 97)))), p_ 4 14 (m_ 13), pg_ 5 15 14 true (m_ 0), pg_ 6 16 14 true (m_ 3), pg_ 7 17 14 true (.six (.t 15) (.t 16)), pg_ 8 18 14 true (.bin 3 1 (.t 17) (.c (.int 1 (.ofNat 122)))), p_ 9 19 (.pick (.t 14) (.t 18) (.c (.bool false))), p_ 10 20 (m_ 19), pg_ 11 21 20 false (m_ 0), pg_ 12 22 20 false (m_ 3), pg_ 13 23 20 false (.six (.t 21) (.t 22)), pg_ 14 24 20 false (.bin 3 3 (.t 23) (.c (.int 1 (.ofNat 48)))), pg_ 15 25 20 false (m_ 24), pg_ 16 26 25 true (m_ 0), pg_ 17 27 25 true (m_ 3), pg_ 18 28 25 true (.six (.t 26) (.t 27)), pg_ 19 29 25 true (.bin 3 1 (.t 28) (.c (.int 1 (.ofNat 57)))), pg_ 20 30 20 false (.pick (.t 25) (.t 29) (.c (.bool false))), p_ 21 31 (.pick (.t 20) (.c (.bool true)) (.t 30)), p_ 22 32 (.un 0 (.t 31))]) (.cond (.t 32) (.seq (g_ 1 [p_ 0 2 (.mv (.c (.bool false)))]) .ret) .skip))) (g_ 3 [p_ 0 8 (m_ 3), p_ 1 9 (.bin 0 0 (.t 8) (i_ 1)), p_ 2 3 (m_ 9)]))) [(0, [.can 0 [0, 3]]), (1, [.can 0 [2]]), (2, [.can 0 [0]])])
theorem vb_l_rplain (p : A_l_rplain) (K : KC) (hpre : pre_l_rplain p) (hK : out_l_rplain p K = true) : (codeX (cfT nat_rpR) lp_rplain 600 bd_l_rplain (I_l_rplain p).1 (I_l_rplain p).2.1 (I_l_rplain p).2.2 (fun e S M nx => Nat.casesOn e (exB fun q : A_l_rplain => must (prB ((S, M, nx) = I_l_rplain q ∧ mu_l_rplain q < mu_l_rplain p)) (sp_l_rplain q K)) (fun e2 => K (Nat.succ e2) S M nx))) = true := by
  refine Eq.trans (b := (let z0 : Bool := (K 1 (.cons 2 (.bool false) .nil) .leaf 0); iP (p.i < (p.s.length : Int)) (mP (0 ≤ p.i ∧ p.i < (p.s.length : Int)) (iP ((97 : Int) ≤ ((p.s.getD p.i.toNat 0).toNat : Int)) (mP (0 ≤ p.i ∧ p.i < (p.s.length : Int)) (iP (((p.s.getD p.i.toNat 0).toNat : Int) ≤ (122 : Int)) (mP (InR 0 (p.i + (1 : Int))) (exB fun q1 : A_l_rplain => mP (((.cons 3 (.sy (.int 0 (p.i + (1 : Int)))) (.cons 0 (.sy (.str p.s)) .nil)), .leaf, 0) = I_l_rplain q1 ∧ mu_l_rplain q1 < mu_l_rplain p) (sp_l_rplain q1 K))) (mP (0 ≤ p.i ∧ p.i < (p.s.length : Int)) (iP ((48 : Int) ≤ ((p.s.getD p.i.toNat 0).toNat : Int)) (mP (0 ≤ p.i ∧ p.i < (p.s.length : Int)) (iP (¬ (((p.s.getD p.i.toNat 0).toNat : Int) ≤ (57 : Int))) z0 (mP (InR 0 (p.i + (1 : Int))) (exB fun q2 : A_l_rplain => mP (((.cons 3 (.sy (.int 0 (p.i + (1 : Int)))) (.cons 0 (.sy (.str p.s)) .nil)), .leaf, 0) = I_l_rplain q2 ∧ mu_l_rplain q2 < mu_l_rplain p) (sp_l_rplain q2 K))))) z0)))) (mP (0 ≤ p.i ∧ p.i < (p.s.length : Int)) (iP ((48 : Int) ≤ ((p.s.getD p.i.toNat 0).toNat : Int)) (mP (0 ≤ p.i ∧ p.i < (p.s.length : Int)) (iP (¬ (((p.s.getD p.i.toNat 0).toNat : Int) ≤ (57 : Int))) z0 (mP (InR 0 (p.i + (1 : Int))) (exB fun q3 : A_l_rplain => mP (((.cons 3 (.sy (.int 0 (p.i + (1 : Int)))) (.cons 0 (.sy (.str p.s)) .nil)), .leaf, 0) = I_l_rplain q3 ∧ mu_l_rplain q3 < mu_l_rplain p) (sp_l_rplain q3 K))))) z0)))) (K 2 (.cons 0 (.sy (.str p.s)) .nil) .leaf 0))) (by kernel_rfl) ?_
  obtain ⟨hK0, hKr0⟩ := must_ok hK
  have hK1 := hKr0
  dsimp only [pre_l_rplain] at hpre
  obtain ⟨g0, g1, g2, g3⟩ := hpre
  refine iI (fun hc1 => ?_) (fun hc1 => ?_)
  refine mI (by first | omega | (constructor <;> omega)) ?_
  refine iI (fun hc2 => ?_) (fun hc2 => ?_)
  refine mI (by first | omega | (constructor <;> omega)) ?_
  refine iI (fun hc3 => ?_) (fun hc3 => ?_)
  refine mI (by simp only [InR] ; omega) ?_
  exact bk_l_rplain (q := ⟨p.s, p.i + (1 : Int)⟩) (by dsimp only [mu_l_rplain] ; omega) (by dsimp only [pre_l_rplain] ; exact ⟨g0, by omega, by omega, okPre_step g3 (by omega) (by unfold okx ; omega)⟩) (by first | exact hK | exact must_mk hK0 hK1) rfl
  refine mI (by first | omega | (constructor <;> omega)) ?_
  refine iI (fun hc4 => ?_) (fun hc4 => ?_)
  refine mI (by first | omega | (constructor <;> omega)) ?_
  refine iI (fun hc5 => ?_) (fun hc5 => ?_)
  exact ifB_use (show ¬ ∀ b ∈ p.s, Lib.okc b.toNat = true from (by intro h ; have h9 := ok_at h (show p.i.toNat < p.s.length by omega) ; unfold okx at h9 ; omega)) hK1
  refine mI (by simp only [InR] ; omega) ?_
  exact bk_l_rplain (q := ⟨p.s, p.i + (1 : Int)⟩) (by dsimp only [mu_l_rplain] ; omega) (by dsimp only [pre_l_rplain] ; exact ⟨g0, by omega, by omega, okPre_step g3 (by omega) (by unfold okx ; omega)⟩) (by first | exact hK | exact must_mk hK0 hK1) rfl
  exact ifB_use (show ¬ ∀ b ∈ p.s, Lib.okc b.toNat = true from (by intro h ; have h9 := ok_at h (show p.i.toNat < p.s.length by omega) ; unfold okx at h9 ; omega)) hK1
  refine mI (by first | omega | (constructor <;> omega)) ?_
  refine iI (fun hc6 => ?_) (fun hc6 => ?_)
  refine mI (by first | omega | (constructor <;> omega)) ?_
  refine iI (fun hc7 => ?_) (fun hc7 => ?_)
  exact ifB_use (show ¬ ∀ b ∈ p.s, Lib.okc b.toNat = true from (by intro h ; have h9 := ok_at h (show p.i.toNat < p.s.length by omega) ; unfold okx at h9 ; omega)) hK1
  refine mI (by simp only [InR] ; omega) ?_
  exact bk_l_rplain (q := ⟨p.s, p.i + (1 : Int)⟩) (by dsimp only [mu_l_rplain] ; omega) (by dsimp only [pre_l_rplain] ; exact ⟨g0, by omega, by omega, okPre_step g3 (by omega) (by unfold okx ; omega)⟩) (by first | exact hK | exact must_mk hK0 hK1) rfl
  exact ifB_use (show ¬ ∀ b ∈ p.s, Lib.okc b.toNat = true from (by intro h ; have h9 := ok_at h (show p.i.toNat < p.s.length by omega) ; unfold okx at h9 ; omega)) hK1
  exact ifB_use (show ∀ b ∈ p.s, Lib.okc b.toNat = true from (by exact okPre_end g3 (by omega))) hK0
theorem lo_l_rplain : LpOk Tryd.prog 35 0 lp_rplain true 0 bd_l_rplain := by
  exact lp_of (lf := 600) ts_mix (cfT_ok nat_rpR_ok) (by rfl) I_l_rplain mu_l_rplain sp_l_rplain (fun b j x h => by cases h) (fun S M nx K h => by obtain ⟨p, h⟩ := exB_ok h; exact ⟨p, (mustP_ok h).1, (mustP_ok h).2⟩) (fun p K h => vb_l_rplain p K (mustP_ok h).1 (mustP_ok h).2)
structure A_rplain where
  s : List UInt8
structure R_rplain where
  q : Prop
def po_rplain (p : A_rplain) (r : R_rplain) : Prop := r.q ↔ plainP p.s
noncomputable def I_rplain (p : A_rplain) : IE := ([.sy (.str p.s)], .leaf, 0)
noncomputable def out_rplain (p : A_rplain) (K : KE) : Bool := allB fun r : R_rplain => iP (po_rplain p r) (K (.sy (.bool r.q)) .leaf 0) true
def pre_rplain (p : A_rplain) : Prop := p.s.length ≤ 1000000
theorem fin_rplain {p : A_rplain} {K : KE} (hK : out_rplain p K = true) (r : R_rplain) (h : po_rplain p r) : K (.sy (.bool r.q)) .leaf 0 = true := ifB_use h (allB_ok hK r)
theorem vf_rplain (p : A_rplain) (K : KE) (hpre : pre_rplain p) (hK : out_rplain p K = true) : (funE 0 (cfT nat_rpR) lp_rplain 600 ft_rplain (I_rplain p).1 (I_rplain p).2.1 (I_rplain p).2.2 K) = true := by
  refine Eq.trans (b := (exB fun p1 : A_l_rplain => mP (((.cons 3 (.sy (.int 0 0)) (.cons 0 (.sy (.str p.s)) .nil)), .leaf, 0) = I_l_rplain p1) (mP (pre_l_rplain p1) (must (iP (po_l_rplain p1) (K (.sy (.bool (¬ p1.s = (([] : List Nat).map UInt8.ofNat)))) .leaf 0) true) (iP (po_l_rplain1 p1) (K (.sy (.bool (false = true))) .leaf 0) true))))) (by kernel_rfl) ?_
  dsimp only [pre_rplain] at hpre
  refine callP (⟨p.s, (0 : Int)⟩ : A_l_rplain) rfl (by (try dsimp only [pre_l_rplain]) ; exact ⟨hpre, by omega, by omega, fun j h1 h2 => by omega⟩) ?_
  refine must_mk ?_ ?_
  refine iI (p := ∀ b ∈ p.s, Lib.okc b.toNat = true) (fun hi1 => ?_) (fun _ => rfl)
  exact fin_rplain hK ⟨¬ p.s = (([] : List Nat).map UInt8.ofNat)⟩ (by dsimp only [po_rplain] <;> (unfold plainP ; simp_all))
  refine iI (p := ¬ ∀ b ∈ p.s, Lib.okc b.toNat = true) (fun hi2 => ?_) (fun _ => rfl)
  exact fin_rplain hK ⟨false = true⟩ (by dsimp only [po_rplain] <;> (unfold plainP ; simp_all))
noncomputable def nat_rplain := natC nat_rpR 0 (esOf I_rplain (spP pre_rplain out_rplain)) 77 [(0, 22)]
theorem nat_rplain_ok : NatsOk Tryd.prog nat_rplain := natC_ok (natE_said (f := 77) (k := 0) (lp := lp_rplain) (lf := 600) ts_mix (cfT_ok nat_rpR_ok) ft_rplain_ok (by rfl) (fun b j x h => (mem_step lo_l_rplain (fun h => (by cases h)) h)) fun p K h => vf_rplain p K (mustP_ok h).1 (mustP_ok h).2) nat_rpR_ok
def ft_spoken : XF := .mk 20 (.one 2) (.aft (.seq (g_ 2 [e_ 0 1 (.box 100 (.t 0)), p_ 1 2 (.mv (.c (.bool false)))]) (.seq (g_ 18 [r_ 0 3 (.ld true 5 (.t 1)), c_ 1 4 73 [.t 3], p_ 2 5 (m_ 4), pg_ 3 6 5 true (f_ 2 1), rg_ 4 7 5 true (l_ 6), cg_ 5 8 5 true 75 [.t 7], p_ 6 9 (.pick (.t 5) (.t 8) (.c (.bool false))), p_ 7 10 (m_ 9), pg_ 8 11 10 true (f_ 1 1), rg_ 9 12 10 true (l_ 11), pg_ 10 13 10 true (.bin 3 5 (.t 12) (.c (.int 1 (.ofNat 1)))), pg_ 11 14 10 true (m_ 13), pg_ 12 15 14 false (f_ 3 1), rg_ 13 16 14 false (l_ 15), cg_ 14 17 14 false 75 [.t 16], pg_ 15 18 10 true (.pick (.t 14) (.c (.bool true)) (.t 17)), p_ 16 19 (.pick (.t 10) (.t 18) (.c (.bool false))), p_ 17 2 (m_ 19)]) .ret)) [(0, [.up 2]), (1, [.up 2])])
theorem ft_spoken_ok : chkF Tryd.prog 57 ft_spoken = true := by kernel_rfl
structure A_spoken where
  p : PtR
structure R_spoken where
  q : Prop
def po_spoken (p : A_spoken) (r : R_spoken) : Prop := r.q ↔ spokenR p.p
noncomputable def I_spoken (p : A_spoken) : IE := ([.agg [.sy (.int 1 p.p.g), .sy (.int 1 p.p.k), .sy (.str p.p.key), .sy (.str p.p.val), .sy (.int 0 p.p.n)]], .leaf, 0)
noncomputable def out_spoken (p : A_spoken) (K : KE) : Bool := allB fun r : R_spoken => iP (po_spoken p r) (K (.sy (.bool r.q)) .leaf 0) true
theorem fin_spoken {p : A_spoken} {K : KE} (hK : out_spoken p K = true) (r : R_spoken) (h : po_spoken p r) : K (.sy (.bool r.q)) .leaf 0 = true := ifB_use h (allB_ok hK r)
theorem vf_spoken (p : A_spoken) (K : KE) (hK : out_spoken p K = true) : (funE 0 (cfT nat_rplain) noLp 600 ft_spoken (I_spoken p).1 (I_spoken p).2.1 (I_spoken p).2.2 K) = true := by
  refine Eq.trans (b := (exB fun p1 : A_partRight => mP (([.agg [.sy (.int 1 p.p.g), .sy (.int 1 p.p.k), .sy (.str p.p.key), .sy (.str p.p.val), .sy (.int 0 p.p.n)]], .leaf, 0) = I_partRight p1) (allB fun r1 : R_partRight => iP (po_partRight p1 r1) (iP (r1.q) (exB fun p2 : A_plain => mP (([.sy (.str p.p.key)], .leaf, 0) = I_plain p2) (allB fun r2 : R_plain => iP (po_plain p2 r2) (iP (r2.q) (iP (¬ p.p.k = (1 : Int)) (K (.sy (.bool (true = true))) .leaf 0) (exB fun p3 : A_plain => mP (([.sy (.str p.p.val)], .leaf, 0) = I_plain p3) (allB fun r3 : R_plain => iP (po_plain p3 r3) (K (.sy (.bool r3.q)) .leaf 0) true))) (K (.sy (.bool (false = true))) .leaf 0)) true)) (K (.sy (.bool (false = true))) .leaf 0)) true))) (by kernel_rfl) ?_
  refine callR (⟨p.p⟩ : A_partRight) rfl fun r1 hi1 => ?_
  dsimp only [po_partRight] at hi1
  refine iI (fun hc2 => ?_) (fun hc2 => ?_)
  refine callR (⟨p.p.key⟩ : A_plain) rfl fun r2 hi3 => ?_
  dsimp only [po_plain] at hi3
  refine iI (fun hc4 => ?_) (fun hc4 => ?_)
  refine iI (fun hc5 => ?_) (fun hc5 => ?_)
  exact fin_spoken hK ⟨true = true⟩ (by dsimp only [po_spoken] <;> (unfold spokenR ; simp_all))
  refine callR (⟨p.p.val⟩ : A_plain) rfl fun r3 hi6 => ?_
  dsimp only [po_plain] at hi6
  exact fin_spoken hK ⟨r3.q⟩ (by dsimp only [po_spoken] <;> (unfold spokenR ; simp_all))
  exact fin_spoken hK ⟨false = true⟩ (by dsimp only [po_spoken] <;> (unfold spokenR ; simp_all))
  exact fin_spoken hK ⟨false = true⟩ (by dsimp only [po_spoken] <;> (unfold spokenR ; simp_all))
noncomputable def nat_spoken := natC nat_rplain 0 (esOf I_spoken out_spoken) 57 [(0, 15)]
theorem nat_spoken_ok : NatsOk Tryd.prog nat_spoken := natC_ok (natE_pn (f := 57) (k := 0) (cfT_ok nat_rplain_ok) ft_spoken_ok (by rfl) (by rfl) vf_spoken) nat_rplain_ok
def ft_rpart : XF := .mk 20 (.one 2) (.aft (.seq (g_ 2 [e_ 0 1 (.box 111 (.t 0)), p_ 1 2 (.mv (.c (.bool false)))]) (.seq (g_ 18 [r_ 0 3 (.ld true 5 (.t 1)), c_ 1 4 76 [.t 3], p_ 2 5 (m_ 4), pg_ 3 6 5 true (f_ 2 1), rg_ 4 7 5 true (l_ 6), cg_ 5 8 5 true 77 [.t 7], p_ 6 9 (.pick (.t 5) (.t 8) (.c (.bool false))), p_ 7 10 (m_ 9), pg_ 8 11 10 true (f_ 1 1), rg_ 9 12 10 true (l_ 11), pg_ 10 13 10 true (.bin 3 5 (.t 12) (.c (.int 1 (.ofNat 1)))), pg_ 11 14 10 true (m_ 13), pg_ 12 15 14 false (f_ 3 1), rg_ 13 16 14 false (l_ 15), cg_ 14 17 14 false 77 [.t 16], pg_ 15 18 10 true (.pick (.t 14) (.c (.bool true)) (.t 17)), p_ 16 19 (.pick (.t 10) (.t 18) (.c (.bool false))), p_ 17 2 (m_ 19)]) .ret)) [(0, [.up 2]), (1, [.up 2])])
theorem ft_rpart_ok : chkF Tryd.prog 60 ft_rpart = true := by kernel_rfl
structure A_rpart where
  p : PtR
structure R_rpart where
  q : Prop
def po_rpart (p : A_rpart) (r : R_rpart) : Prop := r.q ↔ spokenR p.p
noncomputable def I_rpart (p : A_rpart) : IE := ([.agg [.sy (.int 1 p.p.g), .sy (.int 1 p.p.k), .sy (.str p.p.key), .sy (.str p.p.val), .sy (.int 0 p.p.n)]], .leaf, 0)
noncomputable def out_rpart (p : A_rpart) (K : KE) : Bool := allB fun r : R_rpart => iP (po_rpart p r) (K (.sy (.bool r.q)) .leaf 0) true
def pre_rpart (p : A_rpart) : Prop := rgP p.p
theorem fin_rpart {p : A_rpart} {K : KE} (hK : out_rpart p K = true) (r : R_rpart) (h : po_rpart p r) : K (.sy (.bool r.q)) .leaf 0 = true := ifB_use h (allB_ok hK r)
theorem vf_rpart (p : A_rpart) (K : KE) (hpre : pre_rpart p) (hK : out_rpart p K = true) : (funE 0 (cfT nat_spoken) noLp 600 ft_rpart (I_rpart p).1 (I_rpart p).2.1 (I_rpart p).2.2 K) = true := by
  refine Eq.trans (b := (useC (([.agg [.sy (.int 1 p.p.g), .sy (.int 1 p.p.k), .sy (.str p.p.key), .sy (.str p.p.val), .sy (.int 0 p.p.n)]], .leaf, 0)) I_rpR pre_rpR po_rpR fun p1 r1 => iP (r1.q) (useC (([.sy (.str p.p.key)], .leaf, 0)) I_rplain pre_rplain po_rplain fun p2 r2 => iP (r2.q) (iP (¬ p.p.k = (1 : Int)) (K (.sy (.bool (true = true))) .leaf 0) (useC (([.sy (.str p.p.val)], .leaf, 0)) I_rplain pre_rplain po_rplain fun p3 r3 => K (.sy (.bool r3.q)) .leaf 0)) (K (.sy (.bool (false = true))) .leaf 0)) (K (.sy (.bool (false = true))) .leaf 0))) (by kernel_rfl) ?_
  dsimp only [pre_rpart] at hpre
  refine callPR (⟨p.p⟩ : A_rpR) rfl (by (try dsimp only [pre_rpR]) ; assumption) fun r1 hi1 => ?_
  dsimp only [po_rpR] at hi1
  refine iI (fun hc2 => ?_) (fun hc2 => ?_)
  refine callPR (⟨p.p.key⟩ : A_rplain) rfl (by (try dsimp only [pre_rplain]) ; have e := partR_len ((by assumption : _ ↔ partR _).1 (by assumption)) ; omega) fun r2 hi3 => ?_
  dsimp only [po_rplain] at hi3
  refine iI (fun hc4 => ?_) (fun hc4 => ?_)
  refine iI (fun hc5 => ?_) (fun hc5 => ?_)
  exact fin_rpart hK ⟨true = true⟩ (by dsimp only [po_rpart] <;> (unfold spokenR ; simp_all))
  refine callPR (⟨p.p.val⟩ : A_rplain) rfl (by (try dsimp only [pre_rplain]) ; have e := partR_len ((by assumption : _ ↔ partR _).1 (by assumption)) ; omega) fun r3 hi6 => ?_
  dsimp only [po_rplain] at hi6
  exact fin_rpart hK ⟨r3.q⟩ (by dsimp only [po_rpart] <;> (unfold spokenR ; simp_all))
  exact fin_rpart hK ⟨false = true⟩ (by dsimp only [po_rpart] <;> (unfold spokenR ; simp_all))
  exact fin_rpart hK ⟨false = true⟩ (by dsimp only [po_rpart] <;> (unfold spokenR ; simp_all))
noncomputable def nat_rpart := natC nat_spoken 0 (esOf I_rpart (spP pre_rpart out_rpart)) 60 [(0, 15)]
theorem nat_rpart_ok : NatsOk Tryd.prog nat_rpart := natC_ok (natE_pl (f := 60) (k := 0) (cfT_ok nat_spoken_ok) ft_rpart_ok (by rfl) (by rfl) vf_rpart) nat_spoken_ok
def ft_idx72 : XF := .mk 19 (.one 4) (.aft (.seq (g_ 1 [p_ 0 4 (.mv (i_ 0))]) (.seq (.seq (g_ 3 [p_ 0 6 (m_ 0), p_ 1 7 (k_ 6), p_ 2 8 (.mv (i_ 0))]) (.block 2 (.pre [.can 0 [0, 1, 7, 8], .up 7, .up 8, .can 0 [0, 1, 7, 8]] (.inv 0 (.aft (.seq (g_ 1 [p_ 0 9 (.bin 3 0 (.t 8) (.t 7))]) (.seq (.cond (.t 9) .skip (.exit 2)) (.seq (.block 3 (.seq (g_ 2 [p_ 0 10 (m_ 8), p_ 1 5 (m_ 10)]) (.seq (g_ 6 [p_ 0 11 (m_ 1), p_ 1 12 (m_ 0), p_ 2 13 (m_ 5), p_ 3 14 (.ixs 5 (.t 12) (.t 13)), r_ 4 15 (.ld true 5 (.t 14)), .k 5 (some 16) none 11 72 [.t 15]]) (.cond (.t 16) (.seq (g_ 2 [p_ 0 17 (m_ 5), p_ 1 4 (m_ 17)]) .ret) .skip)))) (g_ 2 [p_ 0 18 (.bin 0 0 (.t 8) (i_ 1)), p_ 1 8 (m_ 18)])))) [(0, [.can 0 [0, 1, 7, 8]]), (1, [.can 0 [4]]), (2, [.can 0 []])]))))) (.seq (g_ 1 [p_ 0 4 (.mv (.c (.int 0 (.negSucc 0))))]) .ret))) [(0, [.up 4]), (1, [.up 4])])
theorem ft_idx72_ok : chkF Tryd.prog 74 ft_idx72 = true := by kernel_rfl
structure A_l_idx72 where
  h : Value
  l : List PtR
  i : Int
structure R_l_idx721 where
  z : Int
def po_l_idx72 (p : A_l_idx72) : Prop := ∀ x ∈ p.l, partR x
def po_l_idx721 (p : A_l_idx72) (r : R_l_idx721) : Prop := 0 ≤ r.z ∧ ¬ ∀ x ∈ p.l, partR x
noncomputable def I_l_idx72 (p : A_l_idx72) : IL := ((.cons 8 (.sy (.int 0 p.i)) (.cons 7 (.sy (.int 0 (p.l.length : Int))) (.cons 1 (.fn 72 []) (.cons 0 (.sy (.imm p.h 5 PtR p.l encP)) .nil)))), .leaf, 0)
noncomputable def out_l_idx72 (p : A_l_idx72) (K : KC) : Bool := must (iP (po_l_idx72 p) (K 2 .nil .leaf 0) true) (allB fun r : R_l_idx721 => iP (po_l_idx721 p r) (K 1 (.cons 4 (.sy (.int 0 r.z)) .nil) .leaf 0) true)
def pre_l_idx72 (p : A_l_idx72) : Prop := p.l.length ≤ 1000000 ∧ 0 ≤ p.i ∧ p.i ≤ (p.l.length : Int) ∧ (∀ (j : Nat) y, (j : Int) < p.i → p.l[j]? = some y → partR y)
noncomputable def sp_l_idx72 (p : A_l_idx72) (K : KC) : Bool := must (prB (pre_l_idx72 p)) (out_l_idx72 p K)
noncomputable def lp_idx72 : LpF := fun j S M nx K => (Bool.rec (false) (exB fun p : A_l_idx72 => must (prB ((S, M, nx) = I_l_idx72 p)) (sp_l_idx72 p K)) (Nat.beq j 0))
def mu_l_idx72 (p : A_l_idx72) : Nat := ((p.l.length : Int) - p.i).toNat
theorem bk_l_idx72 {p q : A_l_idx72} {K : KC} {s : IL} (hm : mu_l_idx72 q < mu_l_idx72 p) (hp : pre_l_idx72 q) (hK : out_l_idx72 q K = true) (e : s = I_l_idx72 q) : (exB fun q => mP (s = I_l_idx72 q ∧ mu_l_idx72 q < mu_l_idx72 p) (sp_l_idx72 q K)) = true := exB_mk q (mustP ⟨e, hm⟩ (mustP hp hK))
def bd_l_idx72 : XC := (.aft (.seq (g_ 1 [p_ 0 9 (.bin 3 0 (.t 8) (.t 7))]) (.seq (.cond (.t 9) .skip (.exit 2)) (.seq (.block 3 (.seq (g_ 2 [p_ 0 10 (m_ 8), p_ 1 5 (m_ 10)]) (.seq (g_ 6 [p_ 0 11 (m_ 1), p_ 1 12 (m_ 0), p_ 2 13 (m_ 5), p_ 3 14 (.ixs 5 (.t 12) (.t 13)), r_ 4 15 (.ld true 5 (.t 14)), .k 5 (some 16) none 11 72 [.t 15]]) (.cond (.t 16) (.seq (g_ 2 [p_ 0 17 (m_ 5), p_ 1 4 (m_ 17)]) .ret) .skip)))) (g_ 2 [p_ 0 18 (.bin 0 0 (.t 8) (i_ 1)), p_ 1 8 (m_ 18)])))) [(0, [.can 0 [0, 1, 7, 8]]), (1, [.can 0 [4]]), (2, [.can 0 []])])
theorem vb_l_idx72 (p : A_l_idx72) (K : KC) (hpre : pre_l_idx72 p) (hK : out_l_idx72 p K = true) : (codeX (cfT nat_rpart) lp_idx72 600 bd_l_idx72 (I_l_idx72 p).1 (I_l_idx72 p).2.1 (I_l_idx72 p).2.2 (fun e S M nx => Nat.casesOn e (exB fun q : A_l_idx72 => must (prB ((S, M, nx) = I_l_idx72 q ∧ mu_l_idx72 q < mu_l_idx72 p)) (sp_l_idx72 q K)) (fun e2 => K (Nat.succ e2) S M nx))) = true := by
  refine Eq.trans (b := (iP (p.i < (p.l.length : Int)) (mP (0 ≤ p.i ∧ p.i < (p.l.length : Int)) (allB fun x1 : PtR => iP (p.l[p.i.toNat]? = some x1) (exB fun p1 : A_partRight => mP (([.agg [.sy (.int 1 x1.g), .sy (.int 1 x1.k), .sy (.str x1.key), .sy (.str x1.val), .sy (.int 0 x1.n)]], .leaf, 0) = I_partRight p1) (allB fun r1 : R_partRight => iP (po_partRight p1 r1) (iP (¬ r1.q) (K 1 (.cons 4 (.sy (.int 0 p.i)) .nil) .leaf 0) (mP (InR 0 (p.i + (1 : Int))) (exB fun q1 : A_l_idx72 => mP (((.cons 8 (.sy (.int 0 (p.i + (1 : Int)))) (.cons 7 (.sy (.int 0 (p.l.length : Int))) (.cons 1 (.fn 72 []) (.cons 0 (.sy (.imm p.h 5 PtR p.l encP)) .nil)))), .leaf, 0) = I_l_idx72 q1 ∧ mu_l_idx72 q1 < mu_l_idx72 p) (sp_l_idx72 q1 K)))) true)) true)) (K 2 .nil .leaf 0))) (by kernel_rfl) ?_
  obtain ⟨hK0, hKr0⟩ := must_ok hK
  have hK1 := hKr0
  dsimp only [pre_l_idx72] at hpre
  obtain ⟨g0, g1, g2, g3⟩ := hpre
  refine iI (fun hc1 => ?_) (fun hc1 => ?_)
  refine mI (by first | omega | (constructor <;> omega)) ?_
  refine allB_mk (fun x1 => ?_)
  refine iI (fun hi2 => ?_) (fun _ => rfl)
  refine callR (⟨x1⟩ : A_partRight) rfl fun r1 hi3 => ?_
  dsimp only [po_partRight] at hi3
  refine iI (fun hc4 => ?_) (fun hc4 => ?_)
  exact ifB_use (show 0 ≤ p.i ∧ ¬ ∀ x ∈ p.l, partR x from (by exact ⟨by omega, all_no hi2 (by simp_all)⟩)) (allB_ok hK1 (⟨p.i⟩ : R_l_idx721))
  refine mI (by simp only [InR] ; omega) ?_
  exact bk_l_idx72 (q := ⟨p.h, p.l, p.i + (1 : Int)⟩) (by dsimp only [mu_l_idx72] ; omega) (by dsimp only [pre_l_idx72] ; exact ⟨g0, by omega, by omega, all_step g3 (by omega) hi2 (by simp_all)⟩) hK rfl
  exact ifB_use (show ∀ x ∈ p.l, partR x from (by exact all_end g3 (by omega))) hK0
theorem lo_l_idx72 : LpOk Tryd.prog 19 0 lp_idx72 true 0 bd_l_idx72 := by
  exact lp_of (lf := 600) ts_mix (cfT_ok nat_rpart_ok) (by rfl) I_l_idx72 mu_l_idx72 sp_l_idx72 (fun b j x h => by cases h) (fun S M nx K h => by obtain ⟨p, h⟩ := exB_ok h; exact ⟨p, (mustP_ok h).1, (mustP_ok h).2⟩) (fun p K h => vb_l_idx72 p K (mustP_ok h).1 (mustP_ok h).2)
structure A_idx72 where
  h : Value
  l : List PtR
structure R_idx72 where
  z : Int
def po_idx72 (p : A_idx72) (r : R_idx72) : Prop := (0 ≤ r.z ↔ ¬ ∀ x ∈ p.l, partR x) ∧ (r.z < 0 ↔ ∀ x ∈ p.l, partR x)
noncomputable def I_idx72 (p : A_idx72) : IE := ([.sy (.imm p.h 5 PtR p.l encP), .fn 72 []], .leaf, 0)
noncomputable def out_idx72 (p : A_idx72) (K : KE) : Bool := allB fun r : R_idx72 => iP (po_idx72 p r) (K (.sy (.int 0 r.z)) .leaf 0) true
def pre_idx72 (p : A_idx72) : Prop := p.l.length ≤ 1000000
theorem fin_idx72 {p : A_idx72} {K : KE} (hK : out_idx72 p K = true) (r : R_idx72) (h : po_idx72 p r) : K (.sy (.int 0 r.z)) .leaf 0 = true := ifB_use h (allB_ok hK r)
theorem vf_idx72 (p : A_idx72) (K : KE) (hpre : pre_idx72 p) (hK : out_idx72 p K = true) : (funE 0 (cfT nat_rpart) lp_idx72 600 ft_idx72 (I_idx72 p).1 (I_idx72 p).2.1 (I_idx72 p).2.2 K) = true := by
  refine Eq.trans (b := (exB fun p1 : A_l_idx72 => mP (((.cons 8 (.sy (.int 0 0)) (.cons 7 (.sy (.int 0 (p.l.length : Int))) (.cons 1 (.fn 72 []) (.cons 0 (.sy (.imm p.h 5 PtR p.l encP)) .nil)))), .leaf, 0) = I_l_idx72 p1) (mP (pre_l_idx72 p1) (must (iP (po_l_idx72 p1) (K (.sy (.int 0 (-1))) .leaf 0) true) (allB fun r1 : R_l_idx721 => iP (po_l_idx721 p1 r1) (K (.sy (.int 0 r1.z)) .leaf 0) true))))) (by kernel_rfl) ?_
  dsimp only [pre_idx72] at hpre
  refine callP (⟨p.h, p.l, (0 : Int)⟩ : A_l_idx72) rfl (by (try dsimp only [pre_l_idx72]) ; exact ⟨hpre, by omega, by omega, fun j y h1 h2 => by omega⟩) ?_
  refine must_mk ?_ ?_
  refine iI (p := ∀ x ∈ p.l, partR x) (fun hi1 => ?_) (fun _ => rfl)
  exact fin_idx72 hK ⟨((-1) : Int)⟩ (by dsimp only [po_idx72] <;> (first | (simp_all ; done) | (obtain ⟨a, b⟩ := hi1 ; exact ⟨⟨fun _ => b, fun _ => a⟩, ⟨fun c => absurd c (by omega), fun c => absurd c b⟩⟩)))
  refine allB_mk (fun r1 => ?_)
  refine iI (p := 0 ≤ r1.z ∧ ¬ ∀ x ∈ p.l, partR x) (fun hi2 => ?_) (fun _ => rfl)
  exact fin_idx72 hK ⟨r1.z⟩ (by dsimp only [po_idx72] <;> (first | (simp_all ; done) | (obtain ⟨a, b⟩ := hi2 ; exact ⟨⟨fun _ => b, fun _ => a⟩, ⟨fun c => absurd c (by omega), fun c => absurd c b⟩⟩)))
noncomputable def ec_idx72 : SpecE := tstE (fun us M => fnB us 1 72) (esOf I_idx72 (spP pre_idx72 out_idx72)) (fun _ _ _ _ => false)
theorem nc_idx72 : NatE Tryd.prog 74 0 ec_idx72 := tstE_ok (natE_said (f := 74) (k := 0) (lp := lp_idx72) (lf := 600) ts_mix (cfT_ok nat_rpart_ok) ft_idx72_ok (by rfl) (fun b j x h => (mem_step lo_l_idx72 (fun h => (by cases h)) h)) fun p K h => vf_idx72 p K (mustP_ok h).1 (mustP_ok h).2) natE_no
noncomputable def nat_idx72 := natC nat_rpart 0 ec_idx72 74 [(0, 23)]
theorem nat_idx72_ok : NatsOk Tryd.prog nat_idx72 := natC_ok nc_idx72 nat_rpart_ok
def ft_idx56 : XF := .mk 19 (.one 4) (.aft (.seq (g_ 1 [p_ 0 4 (.mv (i_ 0))]) (.seq (.seq (g_ 3 [p_ 0 6 (m_ 0), p_ 1 7 (k_ 6), p_ 2 8 (.mv (i_ 0))]) (.block 2 (.pre [.can 0 [0, 1, 7, 8], .up 7, .up 8, .can 0 [0, 1, 7, 8]] (.inv 0 (.aft (.seq (g_ 1 [p_ 0 9 (.bin 3 0 (.t 8) (.t 7))]) (.seq (.cond (.t 9) .skip (.exit 2)) (.seq (.block 3 (.seq (g_ 2 [p_ 0 10 (m_ 8), p_ 1 5 (m_ 10)]) (.seq (g_ 6 [p_ 0 11 (m_ 1), p_ 1 12 (m_ 0), p_ 2 13 (m_ 5), p_ 3 14 (.ixs 5 (.t 12) (.t 13)), r_ 4 15 (.ld true 5 (.t 14)), .k 5 (some 16) none 11 56 [.t 15]]) (.cond (.t 16) (.seq (g_ 2 [p_ 0 17 (m_ 5), p_ 1 4 (m_ 17)]) .ret) .skip)))) (g_ 2 [p_ 0 18 (.bin 0 0 (.t 8) (i_ 1)), p_ 1 8 (m_ 18)])))) [(0, [.can 0 [0, 1, 7, 8]]), (1, [.can 0 [4]]), (2, [.can 0 []])]))))) (.seq (g_ 1 [p_ 0 4 (.mv (.c (.int 0 (.negSucc 0))))]) .ret))) [(0, [.up 4]), (1, [.up 4])])
theorem ft_idx56_ok : chkF Tryd.prog 74 ft_idx56 = true := by kernel_rfl
structure A_l_idx56 where
  h : Value
  l : List PtR
  i : Int
structure R_l_idx561 where
  z : Int
def po_l_idx56 (p : A_l_idx56) : Prop := ∀ x ∈ p.l, spokenR x
def po_l_idx561 (p : A_l_idx56) (r : R_l_idx561) : Prop := 0 ≤ r.z ∧ ¬ ∀ x ∈ p.l, spokenR x
noncomputable def I_l_idx56 (p : A_l_idx56) : IL := ((.cons 8 (.sy (.int 0 p.i)) (.cons 7 (.sy (.int 0 (p.l.length : Int))) (.cons 1 (.fn 56 []) (.cons 0 (.sy (.imm p.h 5 PtR p.l encP)) .nil)))), .leaf, 0)
noncomputable def out_l_idx56 (p : A_l_idx56) (K : KC) : Bool := must (iP (po_l_idx56 p) (K 2 .nil .leaf 0) true) (allB fun r : R_l_idx561 => iP (po_l_idx561 p r) (K 1 (.cons 4 (.sy (.int 0 r.z)) .nil) .leaf 0) true)
def pre_l_idx56 (p : A_l_idx56) : Prop := p.l.length ≤ 1000000 ∧ 0 ≤ p.i ∧ p.i ≤ (p.l.length : Int) ∧ (∀ (j : Nat) y, (j : Int) < p.i → p.l[j]? = some y → spokenR y)
noncomputable def sp_l_idx56 (p : A_l_idx56) (K : KC) : Bool := must (prB (pre_l_idx56 p)) (out_l_idx56 p K)
noncomputable def lp_idx56 : LpF := fun j S M nx K => (Bool.rec (false) (exB fun p : A_l_idx56 => must (prB ((S, M, nx) = I_l_idx56 p)) (sp_l_idx56 p K)) (Nat.beq j 0))
def mu_l_idx56 (p : A_l_idx56) : Nat := ((p.l.length : Int) - p.i).toNat
theorem bk_l_idx56 {p q : A_l_idx56} {K : KC} {s : IL} (hm : mu_l_idx56 q < mu_l_idx56 p) (hp : pre_l_idx56 q) (hK : out_l_idx56 q K = true) (e : s = I_l_idx56 q) : (exB fun q => mP (s = I_l_idx56 q ∧ mu_l_idx56 q < mu_l_idx56 p) (sp_l_idx56 q K)) = true := exB_mk q (mustP ⟨e, hm⟩ (mustP hp hK))
def bd_l_idx56 : XC := (.aft (.seq (g_ 1 [p_ 0 9 (.bin 3 0 (.t 8) (.t 7))]) (.seq (.cond (.t 9) .skip (.exit 2)) (.seq (.block 3 (.seq (g_ 2 [p_ 0 10 (m_ 8), p_ 1 5 (m_ 10)]) (.seq (g_ 6 [p_ 0 11 (m_ 1), p_ 1 12 (m_ 0), p_ 2 13 (m_ 5), p_ 3 14 (.ixs 5 (.t 12) (.t 13)), r_ 4 15 (.ld true 5 (.t 14)), .k 5 (some 16) none 11 56 [.t 15]]) (.cond (.t 16) (.seq (g_ 2 [p_ 0 17 (m_ 5), p_ 1 4 (m_ 17)]) .ret) .skip)))) (g_ 2 [p_ 0 18 (.bin 0 0 (.t 8) (i_ 1)), p_ 1 8 (m_ 18)])))) [(0, [.can 0 [0, 1, 7, 8]]), (1, [.can 0 [4]]), (2, [.can 0 []])])
theorem vb_l_idx56 (p : A_l_idx56) (K : KC) (hpre : pre_l_idx56 p) (hK : out_l_idx56 p K = true) : (codeX (cfT nat_idx72) lp_idx56 600 bd_l_idx56 (I_l_idx56 p).1 (I_l_idx56 p).2.1 (I_l_idx56 p).2.2 (fun e S M nx => Nat.casesOn e (exB fun q : A_l_idx56 => must (prB ((S, M, nx) = I_l_idx56 q ∧ mu_l_idx56 q < mu_l_idx56 p)) (sp_l_idx56 q K)) (fun e2 => K (Nat.succ e2) S M nx))) = true := by
  refine Eq.trans (b := (iP (p.i < (p.l.length : Int)) (mP (0 ≤ p.i ∧ p.i < (p.l.length : Int)) (allB fun x1 : PtR => iP (p.l[p.i.toNat]? = some x1) (exB fun p1 : A_spoken => mP (([.agg [.sy (.int 1 x1.g), .sy (.int 1 x1.k), .sy (.str x1.key), .sy (.str x1.val), .sy (.int 0 x1.n)]], .leaf, 0) = I_spoken p1) (allB fun r1 : R_spoken => iP (po_spoken p1 r1) (iP (¬ r1.q) (K 1 (.cons 4 (.sy (.int 0 p.i)) .nil) .leaf 0) (mP (InR 0 (p.i + (1 : Int))) (exB fun q1 : A_l_idx56 => mP (((.cons 8 (.sy (.int 0 (p.i + (1 : Int)))) (.cons 7 (.sy (.int 0 (p.l.length : Int))) (.cons 1 (.fn 56 []) (.cons 0 (.sy (.imm p.h 5 PtR p.l encP)) .nil)))), .leaf, 0) = I_l_idx56 q1 ∧ mu_l_idx56 q1 < mu_l_idx56 p) (sp_l_idx56 q1 K)))) true)) true)) (K 2 .nil .leaf 0))) (by kernel_rfl) ?_
  obtain ⟨hK0, hKr0⟩ := must_ok hK
  have hK1 := hKr0
  dsimp only [pre_l_idx56] at hpre
  obtain ⟨g0, g1, g2, g3⟩ := hpre
  refine iI (fun hc1 => ?_) (fun hc1 => ?_)
  refine mI (by first | omega | (constructor <;> omega)) ?_
  refine allB_mk (fun x1 => ?_)
  refine iI (fun hi2 => ?_) (fun _ => rfl)
  refine callR (⟨x1⟩ : A_spoken) rfl fun r1 hi3 => ?_
  dsimp only [po_spoken] at hi3
  refine iI (fun hc4 => ?_) (fun hc4 => ?_)
  exact ifB_use (show 0 ≤ p.i ∧ ¬ ∀ x ∈ p.l, spokenR x from (by exact ⟨by omega, all_no hi2 (by simp_all)⟩)) (allB_ok hK1 (⟨p.i⟩ : R_l_idx561))
  refine mI (by simp only [InR] ; omega) ?_
  exact bk_l_idx56 (q := ⟨p.h, p.l, p.i + (1 : Int)⟩) (by dsimp only [mu_l_idx56] ; omega) (by dsimp only [pre_l_idx56] ; exact ⟨g0, by omega, by omega, all_step g3 (by omega) hi2 (by simp_all)⟩) hK rfl
  exact ifB_use (show ∀ x ∈ p.l, spokenR x from (by exact all_end g3 (by omega))) hK0
theorem lo_l_idx56 : LpOk Tryd.prog 19 0 lp_idx56 true 0 bd_l_idx56 := by
  exact lp_of (lf := 600) ts_mix (cfT_ok nat_idx72_ok) (by rfl) I_l_idx56 mu_l_idx56 sp_l_idx56 (fun b j x h => by cases h) (fun S M nx K h => by obtain ⟨p, h⟩ := exB_ok h; exact ⟨p, (mustP_ok h).1, (mustP_ok h).2⟩) (fun p K h => vb_l_idx56 p K (mustP_ok h).1 (mustP_ok h).2)
structure A_idx56 where
  h : Value
  l : List PtR
structure R_idx56 where
  z : Int
def po_idx56 (p : A_idx56) (r : R_idx56) : Prop := (0 ≤ r.z ↔ ¬ ∀ x ∈ p.l, spokenR x) ∧ (r.z < 0 ↔ ∀ x ∈ p.l, spokenR x)
noncomputable def I_idx56 (p : A_idx56) : IE := ([.sy (.imm p.h 5 PtR p.l encP), .fn 56 []], .leaf, 0)
noncomputable def out_idx56 (p : A_idx56) (K : KE) : Bool := allB fun r : R_idx56 => iP (po_idx56 p r) (K (.sy (.int 0 r.z)) .leaf 0) true
def pre_idx56 (p : A_idx56) : Prop := p.l.length ≤ 1000000
theorem fin_idx56 {p : A_idx56} {K : KE} (hK : out_idx56 p K = true) (r : R_idx56) (h : po_idx56 p r) : K (.sy (.int 0 r.z)) .leaf 0 = true := ifB_use h (allB_ok hK r)
theorem vf_idx56 (p : A_idx56) (K : KE) (hpre : pre_idx56 p) (hK : out_idx56 p K = true) : (funE 0 (cfT nat_idx72) lp_idx56 600 ft_idx56 (I_idx56 p).1 (I_idx56 p).2.1 (I_idx56 p).2.2 K) = true := by
  refine Eq.trans (b := (exB fun p1 : A_l_idx56 => mP (((.cons 8 (.sy (.int 0 0)) (.cons 7 (.sy (.int 0 (p.l.length : Int))) (.cons 1 (.fn 56 []) (.cons 0 (.sy (.imm p.h 5 PtR p.l encP)) .nil)))), .leaf, 0) = I_l_idx56 p1) (mP (pre_l_idx56 p1) (must (iP (po_l_idx56 p1) (K (.sy (.int 0 (-1))) .leaf 0) true) (allB fun r1 : R_l_idx561 => iP (po_l_idx561 p1 r1) (K (.sy (.int 0 r1.z)) .leaf 0) true))))) (by kernel_rfl) ?_
  dsimp only [pre_idx56] at hpre
  refine callP (⟨p.h, p.l, (0 : Int)⟩ : A_l_idx56) rfl (by (try dsimp only [pre_l_idx56]) ; exact ⟨hpre, by omega, by omega, fun j y h1 h2 => by omega⟩) ?_
  refine must_mk ?_ ?_
  refine iI (p := ∀ x ∈ p.l, spokenR x) (fun hi1 => ?_) (fun _ => rfl)
  exact fin_idx56 hK ⟨((-1) : Int)⟩ (by dsimp only [po_idx56] <;> (first | (simp_all ; done) | (obtain ⟨a, b⟩ := hi1 ; exact ⟨⟨fun _ => b, fun _ => a⟩, ⟨fun c => absurd c (by omega), fun c => absurd c b⟩⟩)))
  refine allB_mk (fun r1 => ?_)
  refine iI (p := 0 ≤ r1.z ∧ ¬ ∀ x ∈ p.l, spokenR x) (fun hi2 => ?_) (fun _ => rfl)
  exact fin_idx56 hK ⟨r1.z⟩ (by dsimp only [po_idx56] <;> (first | (simp_all ; done) | (obtain ⟨a, b⟩ := hi2 ; exact ⟨⟨fun _ => b, fun _ => a⟩, ⟨fun c => absurd c (by omega), fun c => absurd c b⟩⟩)))
noncomputable def ec_idx56 : SpecE := tstE (fun us M => fnB us 1 56) (esOf I_idx56 (spP pre_idx56 out_idx56)) ec_idx72
theorem nc_idx56 : NatE Tryd.prog 74 0 ec_idx56 := tstE_ok (natE_said (f := 74) (k := 0) (lp := lp_idx56) (lf := 600) ts_mix (cfT_ok nat_idx72_ok) ft_idx56_ok (by rfl) (fun b j x h => (mem_step lo_l_idx56 (fun h => (by cases h)) h)) fun p K h => vf_idx56 p K (mustP_ok h).1 (mustP_ok h).2) nc_idx72
noncomputable def nat_idx56 := natC nat_idx72 0 ec_idx56 74 [(0, 23)]
theorem nat_idx56_ok : NatsOk Tryd.prog nat_idx56 := natC_ok nc_idx56 nat_idx72_ok
end Go.Proofs.Tryd
namespace Go.Proofs.Tryd
open Go Go.RowKit Go.Sy
open Go.Eng hiding allB
set_option maxRecDepth 1000000
set_option linter.unusedVariables false
set_option maxHeartbeats 4000000
def partsR (l : List PtR) : Prop := 1 ≤ l.length ∧ l.length ≤ 4 ∧ ∀ x ∈ l, partR x
def opR (o : OpR) : Prop := (o.kind = 0 ∧ o.y = 0 ∧ o.i = 0 ∧ o.at_ = 0 ∧ o.mask = 0 ∧ (0 ≤ o.x ∧ o.x ≤ 1099511627776) ∧ (0 ≤ o.mode ∧ o.mode ≤ 1099511627776) ∧ partsR o.ps ∧ (∃ p, o.ps[0]? = some p ∧ p.g = o.grp) ∧ ∀ p ∈ o.ps, spokenR p) ∨ (o.kind = 1 ∧ o.i = 0 ∧ o.at_ = 0 ∧ o.mode = 0 ∧ o.mask = 0 ∧ o.grp = 0 ∧ o.ps = [] ∧ (0 ≤ o.x ∧ o.x ≤ 1099511627776) ∧ (0 ≤ o.y ∧ o.y ≤ 1099511627776)) ∨ (o.kind = 2 ∧ o.x = 0 ∧ o.y = 0 ∧ o.at_ = 0 ∧ o.mode = 0 ∧ o.mask = 0 ∧ o.grp = 0 ∧ o.ps = [] ∧ (0 ≤ o.i ∧ o.i ≤ 1099511627776)) ∨ (o.kind = 3 ∧ o.x = 0 ∧ o.y = 0 ∧ o.at_ = 0 ∧ o.mode = 0 ∧ o.mask = 0 ∧ o.grp = 0 ∧ o.ps = [] ∧ (0 ≤ o.i ∧ o.i ≤ 1099511627776)) ∨ (o.kind = 4 ∧ o.x = 0 ∧ o.y = 0 ∧ o.at_ = 0 ∧ o.mode = 0 ∧ o.mask = 0 ∧ o.grp = 0 ∧ o.ps = [] ∧ (0 ≤ o.i ∧ o.i ≤ 1099511627776)) ∨ (o.kind = 5 ∧ o.x = 0 ∧ o.y = 0 ∧ o.mode = 0 ∧ o.grp = 0 ∧ o.ps = [] ∧ (0 ≤ o.i ∧ o.i ≤ 1099511627776) ∧ (0 ≤ o.at_ ∧ o.at_ ≤ 1099511627776)) ∨ (o.kind = 6 ∧ o.y = 0 ∧ o.i = 0 ∧ o.at_ = 0 ∧ o.mode = 0 ∧ o.mask = 0 ∧ o.grp = 0 ∧ o.ps = [] ∧ (0 ≤ o.x ∧ o.x ≤ 1099511627776)) ∨ (o.kind = 7 ∧ o.i = 0 ∧ o.at_ = 0 ∧ o.mode = 0 ∧ o.mask = 0 ∧ o.grp = 0 ∧ o.ps = [] ∧ (0 ≤ o.x ∧ o.x ≤ 1099511627776) ∧ (0 ≤ o.y ∧ o.y ≤ 1099511627776)) ∨ (o.kind = 8 ∧ o.y = 0 ∧ o.i = 0 ∧ o.at_ = 0 ∧ o.mode = 0 ∧ o.mask = 0 ∧ o.grp = 0 ∧ o.ps = [] ∧ (0 ≤ o.x ∧ o.x ≤ 1099511627776)) ∨ (o.kind = 9 ∧ o.y = 0 ∧ o.i = 0 ∧ o.at_ = 0 ∧ o.mode = 0 ∧ o.mask = 0 ∧ o.grp = 0 ∧ o.ps = [] ∧ (0 ≤ o.x ∧ o.x ≤ 1099511627776)) ∨ (o.kind = 10 ∧ o.y = 0 ∧ o.i = 0 ∧ o.at_ = 0 ∧ o.mode = 0 ∧ o.mask = 0 ∧ o.grp = 0 ∧ o.ps = [] ∧ (0 ≤ o.x ∧ o.x ≤ 1099511627776)) ∨ (o.kind = 11 ∧ o.y = 0 ∧ o.i = 0 ∧ o.at_ = 0 ∧ o.mode = 0 ∧ o.mask = 0 ∧ o.grp = 0 ∧ o.ps = [] ∧ (0 ≤ o.x ∧ o.x ≤ 1099511627776))
theorem opR_0 {o : OpR} (h : o.kind = 0) : opR o ↔ o.y = 0 ∧ o.i = 0 ∧ o.at_ = 0 ∧ o.mask = 0 ∧ (0 ≤ o.x ∧ o.x ≤ 1099511627776) ∧ (0 ≤ o.mode ∧ o.mode ≤ 1099511627776) ∧ partsR o.ps ∧ (∃ p, o.ps[0]? = some p ∧ p.g = o.grp) ∧ ∀ p ∈ o.ps, spokenR p := by
  unfold opR
  rw [h]
  simp
theorem opR_1 {o : OpR} (h : o.kind = 1) : opR o ↔ o.i = 0 ∧ o.at_ = 0 ∧ o.mode = 0 ∧ o.mask = 0 ∧ o.grp = 0 ∧ o.ps = [] ∧ (0 ≤ o.x ∧ o.x ≤ 1099511627776) ∧ (0 ≤ o.y ∧ o.y ≤ 1099511627776) := by
  unfold opR
  rw [h]
  simp
theorem opR_2 {o : OpR} (h : o.kind = 2) : opR o ↔ o.x = 0 ∧ o.y = 0 ∧ o.at_ = 0 ∧ o.mode = 0 ∧ o.mask = 0 ∧ o.grp = 0 ∧ o.ps = [] ∧ (0 ≤ o.i ∧ o.i ≤ 1099511627776) := by
  unfold opR
  rw [h]
  simp
theorem opR_3 {o : OpR} (h : o.kind = 3) : opR o ↔ o.x = 0 ∧ o.y = 0 ∧ o.at_ = 0 ∧ o.mode = 0 ∧ o.mask = 0 ∧ o.grp = 0 ∧ o.ps = [] ∧ (0 ≤ o.i ∧ o.i ≤ 1099511627776) := by
  unfold opR
  rw [h]
  simp
theorem opR_4 {o : OpR} (h : o.kind = 4) : opR o ↔ o.x = 0 ∧ o.y = 0 ∧ o.at_ = 0 ∧ o.mode = 0 ∧ o.mask = 0 ∧ o.grp = 0 ∧ o.ps = [] ∧ (0 ≤ o.i ∧ o.i ≤ 1099511627776) := by
  unfold opR
  rw [h]
  simp
theorem opR_5 {o : OpR} (h : o.kind = 5) : opR o ↔ o.x = 0 ∧ o.y = 0 ∧ o.mode = 0 ∧ o.grp = 0 ∧ o.ps = [] ∧ (0 ≤ o.i ∧ o.i ≤ 1099511627776) ∧ (0 ≤ o.at_ ∧ o.at_ ≤ 1099511627776) := by
  unfold opR
  rw [h]
  simp
theorem opR_6 {o : OpR} (h : o.kind = 6) : opR o ↔ o.y = 0 ∧ o.i = 0 ∧ o.at_ = 0 ∧ o.mode = 0 ∧ o.mask = 0 ∧ o.grp = 0 ∧ o.ps = [] ∧ (0 ≤ o.x ∧ o.x ≤ 1099511627776) := by
  unfold opR
  rw [h]
  simp
theorem opR_7 {o : OpR} (h : o.kind = 7) : opR o ↔ o.i = 0 ∧ o.at_ = 0 ∧ o.mode = 0 ∧ o.mask = 0 ∧ o.grp = 0 ∧ o.ps = [] ∧ (0 ≤ o.x ∧ o.x ≤ 1099511627776) ∧ (0 ≤ o.y ∧ o.y ≤ 1099511627776) := by
  unfold opR
  rw [h]
  simp
theorem opR_8 {o : OpR} (h : o.kind = 8) : opR o ↔ o.y = 0 ∧ o.i = 0 ∧ o.at_ = 0 ∧ o.mode = 0 ∧ o.mask = 0 ∧ o.grp = 0 ∧ o.ps = [] ∧ (0 ≤ o.x ∧ o.x ≤ 1099511627776) := by
  unfold opR
  rw [h]
  simp
theorem opR_9 {o : OpR} (h : o.kind = 9) : opR o ↔ o.y = 0 ∧ o.i = 0 ∧ o.at_ = 0 ∧ o.mode = 0 ∧ o.mask = 0 ∧ o.grp = 0 ∧ o.ps = [] ∧ (0 ≤ o.x ∧ o.x ≤ 1099511627776) := by
  unfold opR
  rw [h]
  simp
theorem opR_10 {o : OpR} (h : o.kind = 10) : opR o ↔ o.y = 0 ∧ o.i = 0 ∧ o.at_ = 0 ∧ o.mode = 0 ∧ o.mask = 0 ∧ o.grp = 0 ∧ o.ps = [] ∧ (0 ≤ o.x ∧ o.x ≤ 1099511627776) := by
  unfold opR
  rw [h]
  simp
theorem opR_11 {o : OpR} (h : o.kind = 11) : opR o ↔ o.y = 0 ∧ o.i = 0 ∧ o.at_ = 0 ∧ o.mode = 0 ∧ o.mask = 0 ∧ o.grp = 0 ∧ o.ps = [] ∧ (0 ≤ o.x ∧ o.x ≤ 1099511627776) := by
  unfold opR
  rw [h]
  simp
theorem opR_no {o : OpR} (h : ¬ (0 ≤ o.kind ∧ o.kind ≤ 11)) : ¬ opR o := by
  unfold opR
  intro q
  rcases q with ⟨q, _⟩ | ⟨q, _⟩ | ⟨q, _⟩ | ⟨q, _⟩ | ⟨q, _⟩ | ⟨q, _⟩ | ⟨q, _⟩ | ⟨q, _⟩ | ⟨q, _⟩ | ⟨q, _⟩ | ⟨q, _⟩ | ⟨q, _⟩ <;> omega
def ft_rall : XF := .mk 28 (.one 2) (.aft (.seq (g_ 1 [p_ 0 2 (.mv (.c (.bool false)))]) (.seq (.seq (g_ 1 [p_ 0 3 (.mv (i_ 0))]) (.block 2 (.pre [.can 0 [0, 3], .up 3, .can 0 [0, 3]] (.inv 0 (.aft (.seq (.seq (g_ 8 [p_ 0 4 (m_ 3), p_ 1 5 (m_ 0), p_ 2 6 (k_ 5), p_ 3 7 (.bin 3 0 (.t 4) (.t 6)), p_ 4 8 (m_ 7), pg_ 5 9 8 true (m_ 3), pg_ 6 10 8 true (.bin 3 0 (.t 9) (i_ 10)), p_ 7 11 (.pick (.t 8) (.t 10) (.c (.bool false)))]) (.cond (.t 11) .skip (.exit 2))) (.seq (.block 3 (.seq (g_ 6 [p_ 0 14 (m_ 0), p_ 1 15 (m_ 3), p_ 2 16 (.ixs 5 (.t 14) (.t 15)), r_ 3 17 (.ld true 5 (.t 16)), c_ 4 18 76 [.t 17], p_ 5 19 (.un 0 (.t 18))]) (.cond (.t 19) (.seq (g_ 1 [p_ 0 2 (.mv (.c (.bool false)))]) .ret) .skip))) (g_ 3 [p_ 0 12 (m_ 3), p_ 1 13 (.bin 0 0 (.t 12) (i_ 1)), p_ 2 3 (m_ 13)]))) [(0, [.can 0 [0, 3]]), (1, [.can 0 [2]]), (2, [.can 0 [0]])]))))) (.seq (g_ 9 [p_ 0 20 (m_ 0), p_ 1 21 (k_ 20), p_ 2 22 (.bin 3 3 (.t 21) (i_ 1)), p_ 3 23 (m_ 22), pg_ 4 24 23 true (m_ 0), pg_ 5 25 23 true (k_ 24), pg_ 6 26 23 true (.bin 3 1 (.t 25) (i_ 4)), p_ 7 27 (.pick (.t 23) (.t 26) (.c (.bool false))), p_ 8 2 (m_ 27)]) .ret))) [(0, [.up 2]), (1, [.up 2])])
theorem ft_rall_ok : chkF Tryd.prog 59 ft_rall = true := by kernel_rfl
structure A_l_rall where
  h : Value
  l : List PtR
  i : Int
def po_l_rall (p : A_l_rall) : Prop := p.l.length ≤ 10 → ∀ x ∈ p.l, partR x
def po_l_rall1 (p : A_l_rall) : Prop := ¬ ∀ x ∈ p.l, partR x
noncomputable def I_l_rall (p : A_l_rall) : IL := ((.cons 3 (.sy (.int 0 p.i)) (.cons 0 (.sy (.imm p.h 5 PtR p.l encP)) .nil)), .leaf, 0)
noncomputable def out_l_rall (p : A_l_rall) (K : KC) : Bool := must (iP (po_l_rall p) (K 2 (.cons 0 (.sy (.imm p.h 5 PtR p.l encP)) .nil) .leaf 0) true) (iP (po_l_rall1 p) (K 1 (.cons 2 (.bool false) .nil) .leaf 0) true)
def pre_l_rall (p : A_l_rall) : Prop := p.l.length ≤ 1000000 ∧ 0 ≤ p.i ∧ p.i ≤ (p.l.length : Int) ∧ p.i ≤ 10 ∧ (∀ x ∈ p.l, rgP x) ∧ (∀ (j : Nat) y, (j : Int) < p.i → p.l[j]? = some y → partR y)
noncomputable def sp_l_rall (p : A_l_rall) (K : KC) : Bool := must (prB (pre_l_rall p)) (out_l_rall p K)
noncomputable def lp_rall : LpF := fun j S M nx K => (Bool.rec (false) (exB fun p : A_l_rall => must (prB ((S, M, nx) = I_l_rall p)) (sp_l_rall p K)) (Nat.beq j 0))
def mu_l_rall (p : A_l_rall) : Nat := ((p.l.length : Int) - p.i).toNat
theorem bk_l_rall {p q : A_l_rall} {K : KC} {s : IL} (hm : mu_l_rall q < mu_l_rall p) (hp : pre_l_rall q) (hK : out_l_rall q K = true) (e : s = I_l_rall q) : (exB fun q => mP (s = I_l_rall q ∧ mu_l_rall q < mu_l_rall p) (sp_l_rall q K)) = true := exB_mk q (mustP ⟨e, hm⟩ (mustP hp hK))
def bd_l_rall : XC := (.aft (.seq (.seq (g_ 8 [p_ 0 4 (m_ 3), p_ 1 5 (m_ 0), p_ 2 6 (k_ 5), p_ 3 7 (.bin 3 0 (.t 4) (.t 6)), p_ 4 8 (m_ 7), pg_ 5 9 8 true (m_ 3), pg_ 6 10 8 true (.bin 3 0 (.t 9) (i_ 10)), p_ 7 11 (.pick (.t 8) (.t 10) (.c (.bool false)))]) (.cond (.t 11) .skip (.exit 2))) (.seq (.block 3 (.seq (g_ 6 [p_ 0 14 (m_ 0), p_ 1 15 (m_ 3), p_ 2 16 (.ixs 5 (.t 14) (.t 15)), r_ 3 17 (.ld true 5 (.t 16)), c_ 4 18 76 [.t 17], p_ 5 19 (.un 0 (.t 18))]) (.cond (.t 19) (.seq (g_ 1 [p_ 0 2 (.mv (.c (.bool false)))]) .ret) .skip))) (g_ 3 [p_ 0 12 (m_ 3), p_ 1 13 (.bin 0 0 (.t 12) (i_ 1)), p_ 2 3 (m_ 13)]))) [(0, [.can 0 [0, 3]]), (1, [.can 0 [2]]), (2, [.can 0 [0]])])
theorem vb_l_rall (p : A_l_rall) (K : KC) (hpre : pre_l_rall p) (hK : out_l_rall p K = true) : (codeX (cfT nat_idx56) lp_rall 600 bd_l_rall (I_l_rall p).1 (I_l_rall p).2.1 (I_l_rall p).2.2 (fun e S M nx => Nat.casesOn e (exB fun q : A_l_rall => must (prB ((S, M, nx) = I_l_rall q ∧ mu_l_rall q < mu_l_rall p)) (sp_l_rall q K)) (fun e2 => K (Nat.succ e2) S M nx))) = true := by
  refine Eq.trans (b := (iP (p.i < (p.l.length : Int)) (iP (p.i < (10 : Int)) (mP (0 ≤ p.i ∧ p.i < (p.l.length : Int)) (allB fun x1 : PtR => iP (p.l[p.i.toNat]? = some x1) (useC (([.agg [.sy (.int 1 x1.g), .sy (.int 1 x1.k), .sy (.str x1.key), .sy (.str x1.val), .sy (.int 0 x1.n)]], .leaf, 0)) I_rpR pre_rpR po_rpR fun p1 r1 => iP (¬ r1.q) (K 1 (.cons 2 (.bool false) .nil) .leaf 0) (mP (InR 0 (p.i + (1 : Int))) (exB fun q1 : A_l_rall => mP (((.cons 3 (.sy (.int 0 (p.i + (1 : Int)))) (.cons 0 (.sy (.imm p.h 5 PtR p.l encP)) .nil)), .leaf, 0) = I_l_rall q1 ∧ mu_l_rall q1 < mu_l_rall p) (sp_l_rall q1 K)))) true)) (K 2 (.cons 0 (.sy (.imm p.h 5 PtR p.l encP)) .nil) .leaf 0)) (K 2 (.cons 0 (.sy (.imm p.h 5 PtR p.l encP)) .nil) .leaf 0))) (by kernel_rfl) ?_
  obtain ⟨hK0, hKr0⟩ := must_ok hK
  have hK1 := hKr0
  dsimp only [pre_l_rall] at hpre
  obtain ⟨g0, g1, g2, g3, g4, g5⟩ := hpre
  refine iI (fun hc1 => ?_) (fun hc1 => ?_)
  refine iI (fun hc2 => ?_) (fun hc2 => ?_)
  refine mI (by first | omega | (constructor <;> omega)) ?_
  refine allB_mk (fun x1 => ?_)
  refine iI (fun hi3 => ?_) (fun _ => rfl)
  have hg_x1 := g4 _ (List.mem_of_getElem? (by assumption : p.l[p.i.toNat]? = some x1))
  refine callPR (⟨x1⟩ : A_rpR) rfl (by (try dsimp only [pre_rpR]) ; assumption) fun r1 hi4 => ?_
  dsimp only [po_rpR] at hi4
  refine iI (fun hc5 => ?_) (fun hc5 => ?_)
  exact ifB_use (show ¬ ∀ x ∈ p.l, partR x from (by exact all_no hi3 (by simp_all))) hK1
  refine mI (by simp only [InR] ; omega) ?_
  exact bk_l_rall (q := ⟨p.h, p.l, p.i + (1 : Int)⟩) (by dsimp only [mu_l_rall] ; omega) (by dsimp only [pre_l_rall] ; exact ⟨g0, by omega, by omega, by omega, g4, all_step g5 (by omega) hi3 (by simp_all)⟩) hK rfl
  exact ifB_use (show p.l.length ≤ 10 → ∀ x ∈ p.l, partR x from (by intro z ; exact all_end g5 (by omega))) hK0
  exact ifB_use (show p.l.length ≤ 10 → ∀ x ∈ p.l, partR x from (by intro z ; exact all_end g5 (by omega))) hK0
theorem lo_l_rall : LpOk Tryd.prog 28 0 lp_rall true 0 bd_l_rall := by
  exact lp_of (lf := 600) ts_mix (cfT_ok nat_idx56_ok) (by rfl) I_l_rall mu_l_rall sp_l_rall (fun b j x h => by cases h) (fun S M nx K h => by obtain ⟨p, h⟩ := exB_ok h; exact ⟨p, (mustP_ok h).1, (mustP_ok h).2⟩) (fun p K h => vb_l_rall p K (mustP_ok h).1 (mustP_ok h).2)
structure A_rall where
  h : Value
  l : List PtR
structure R_rall where
  q : Prop
def po_rall (p : A_rall) (r : R_rall) : Prop := r.q ↔ partsR p.l
noncomputable def I_rall (p : A_rall) : IE := ([.sy (.imm p.h 5 PtR p.l encP)], .leaf, 0)
noncomputable def out_rall (p : A_rall) (K : KE) : Bool := allB fun r : R_rall => iP (po_rall p r) (K (.sy (.bool r.q)) .leaf 0) true
def pre_rall (p : A_rall) : Prop := p.l.length ≤ 1000000 ∧ ∀ x ∈ p.l, rgP x
theorem fin_rall {p : A_rall} {K : KE} (hK : out_rall p K = true) (r : R_rall) (h : po_rall p r) : K (.sy (.bool r.q)) .leaf 0 = true := ifB_use h (allB_ok hK r)
theorem vf_rall (p : A_rall) (K : KE) (hpre : pre_rall p) (hK : out_rall p K = true) : (funE 0 (cfT nat_idx56) lp_rall 600 ft_rall (I_rall p).1 (I_rall p).2.1 (I_rall p).2.2 K) = true := by
  refine Eq.trans (b := (exB fun p1 : A_l_rall => mP (((.cons 3 (.sy (.int 0 0)) (.cons 0 (.sy (.imm p.h 5 PtR p.l encP)) .nil)), .leaf, 0) = I_l_rall p1) (mP (pre_l_rall p1) (must (iP (po_l_rall p1) (iP ((1 : Int) ≤ (p1.l.length : Int)) (K (.sy (.bool ((p1.l.length : Int) ≤ (4 : Int)))) .leaf 0) (K (.sy (.bool (false = true))) .leaf 0)) true) (iP (po_l_rall1 p1) (K (.sy (.bool (false = true))) .leaf 0) true))))) (by kernel_rfl) ?_
  dsimp only [pre_rall] at hpre
  refine callP (⟨p.h, p.l, (0 : Int)⟩ : A_l_rall) rfl (by (try dsimp only [pre_l_rall]) ; exact ⟨hpre.1, by omega, by omega, by omega, hpre.2, fun j y h1 h2 => by omega⟩) ?_
  refine must_mk ?_ ?_
  refine iI (p := p.l.length ≤ 10 → ∀ x ∈ p.l, partR x) (fun hi1 => ?_) (fun _ => rfl)
  refine iI (p := (1 : Int) ≤ (p.l.length : Int)) (fun hc2 => ?_) (fun hc2 => ?_)
  exact fin_rall hK ⟨(p.l.length : Int) ≤ (4 : Int)⟩ (by dsimp only [po_rall] <;> (unfold partsR ; first | (refine ⟨fun h => ⟨by omega, by omega, hi1 (by omega)⟩, fun h => ?_⟩ ; omega) | (have e := hi1 (by omega) ; simp_all ; done) | (have e := hi1 (by omega) ; constructor <;> intro h <;> simp_all <;> omega) | (constructor <;> intro h <;> simp_all <;> omega) | (simp_all ; done) | (simp_all ; omega)))
  exact fin_rall hK ⟨false = true⟩ (by dsimp only [po_rall] <;> (unfold partsR ; first | (refine ⟨fun h => ⟨by omega, by omega, hi1 (by omega)⟩, fun h => ?_⟩ ; omega) | (have e := hi1 (by omega) ; simp_all ; done) | (have e := hi1 (by omega) ; constructor <;> intro h <;> simp_all <;> omega) | (constructor <;> intro h <;> simp_all <;> omega) | (simp_all ; done) | (simp_all ; omega)))
  refine iI (p := ¬ ∀ x ∈ p.l, partR x) (fun hi3 => ?_) (fun _ => rfl)
  exact fin_rall hK ⟨false = true⟩ (by dsimp only [po_rall] <;> (unfold partsR ; first | (refine ⟨fun h => ⟨by omega, by omega, hi3 (by omega)⟩, fun h => ?_⟩ ; omega) | (have e := hi3 (by omega) ; simp_all ; done) | (have e := hi3 (by omega) ; constructor <;> intro h <;> simp_all <;> omega) | (constructor <;> intro h <;> simp_all <;> omega) | (simp_all ; done) | (simp_all ; omega)))
noncomputable def nat_rall := natC nat_idx56 0 (esOf I_rall (spP pre_rall out_rall)) 59 [(0, 23)]
theorem nat_rall_ok : NatsOk Tryd.prog nat_rall := natC_ok (natE_said (f := 59) (k := 0) (lp := lp_rall) (lf := 600) ts_mix (cfT_ok nat_idx56_ok) ft_rall_ok (by rfl) (fun b j x h => (mem_step lo_l_rall (fun h => (by cases h)) h)) fun p K h => vf_rall p K (mustP_ok h).1 (mustP_ok h).2) nat_idx56_ok
def ft_equalPn : XF := .mk 26 (.one 4) (.aft (.seq (g_ 1 [p_ 0 4 (.mv (.c (.bool false)))]) (.seq (.seq (g_ 5 [p_ 0 6 (m_ 0), p_ 1 7 (k_ 6), p_ 2 8 (m_ 1), p_ 3 9 (k_ 8), p_ 4 10 (.bin 3 5 (.t 7) (.t 9))]) (.cond (.t 10) (.seq (g_ 1 [p_ 0 4 (.mv (.c (.bool false)))]) .ret) .skip)) (.seq (.seq (g_ 3 [p_ 0 11 (m_ 0), p_ 1 12 (k_ 11), p_ 2 13 (.mv (i_ 0))]) (.block 2 (.loop [0, 1, 4, 5, 12, 13, 14, 15, 16, 17, 18, 19, 20, 21, 22, 23, 24, 25] (.seq (g_ 1 [p_ 0 14 (.bin 3 0 (.t 13) (.t 12))]) (.seq (.cond (.t 14) .skip (.exit 2)) (.seq (.block 3 (.seq (g_ 2 [p_ 0 15 (m_ 13), p_ 1 5 (m_ 15)]) (.seq (h_ 9 [p_ 0 16 (m_ 0), p_ 1 17 (m_ 5), p_ 2 18 (.ixs 5 (.t 16) (.t 17)), r_ 3 19 (.ld true 5 (.t 18)), p_ 4 20 (m_ 1), p_ 5 21 (m_ 5), p_ 6 22 (.ixs 5 (.t 20) (.t 21)), r_ 7 23 (.ld true 5 (.t 22)), p_ 8 24 (.eqs true 2 (.st [(0, 1, false, .int), (1, 1, false, .int), (2, 1, false, .str), (3, 1, false, .str), (4, 1, false, .int)]) (.t 19) (.t 23))]) (.cond (.t 24) (.seq (g_ 1 [p_ 0 4 (.mv (.c (.bool false)))]) .ret) .skip)))) (g_ 2 [p_ 0 25 (.bin 0 0 (.t 13) (i_ 1)), p_ 1 13 (m_ 25)]))))))) (.seq (g_ 1 [p_ 0 4 (.mv (.c (.bool true)))]) .ret)))) [(0, [.up 4]), (1, [.up 4])])
theorem ft_equalPn_ok : chkF Tryd.prog 78 ft_equalPn = true := by kernel_rfl
structure A_equalPn where
  h : Value
  l : List PtR
structure R_equalPn where
  q : Prop
def po_equalPn (p : A_equalPn) (r : R_equalPn) : Prop := r.q ↔ p.l = []
noncomputable def I_equalPn (p : A_equalPn) : IE := ([.sy (.imm p.h 5 PtR p.l encP), .nilS], .leaf, 0)
noncomputable def out_equalPn (p : A_equalPn) (K : KE) : Bool := allB fun r : R_equalPn => iP (po_equalPn p r) (K (.sy (.bool r.q)) .leaf 0) true
theorem fin_equalPn {p : A_equalPn} {K : KE} (hK : out_equalPn p K = true) (r : R_equalPn) (h : po_equalPn p r) : K (.sy (.bool r.q)) .leaf 0 = true := ifB_use h (allB_ok hK r)
theorem vf_equalPn (p : A_equalPn) (K : KE) (hK : out_equalPn p K = true) : (funE 0 (cfT nat_rall) noLp 600 ft_equalPn (I_equalPn p).1 (I_equalPn p).2.1 (I_equalPn p).2.2 K) = true := by
  refine Eq.trans (b := (iP (¬ (p.l.length : Int) = (0 : Int)) (K (.sy (.bool (false = true))) .leaf 0) (iP ((0 : Int) < (p.l.length : Int)) (mP (0 ≤ (0 : Int) ∧ (0 : Int) < (p.l.length : Int)) (allB fun x1 : PtR => iP (p.l[0]? = some x1) (false) true)) (K (.sy (.bool (true = true))) .leaf 0)))) (by kernel_rfl) ?_
  refine iI (fun hc1 => ?_) (fun hc1 => ?_)
  exact fin_equalPn hK ⟨false = true⟩ (by dsimp only [po_equalPn] <;> (first | (simp_all ; done) | (simp ; intro e ; simp [e] at * ; done) | (simp ; exact List.eq_nil_of_length_eq_zero (by omega))))
  refine iI (fun hc2 => ?_) (fun hc2 => ?_)
  refine mI (by first | omega | (constructor <;> omega)) ?_
  refine allB_mk (fun x1 => ?_)
  refine iI (fun hi3 => ?_) (fun _ => rfl)
  exfalso ; omega
  exact fin_equalPn hK ⟨true = true⟩ (by dsimp only [po_equalPn] <;> (first | (simp_all ; done) | (simp ; intro e ; simp [e] at * ; done) | (simp ; exact List.eq_nil_of_length_eq_zero (by omega))))
noncomputable def nat_equalPn := natC nat_rall 0 (esOf I_equalPn out_equalPn) 78 [(0, 23), (1, 8)]
theorem nat_equalPn_ok : NatsOk Tryd.prog nat_equalPn := natC_ok (natE_pn (f := 78) (k := 0) (cfT_ok nat_rall_ok) ft_equalPn_ok (by rfl) (by rfl) vf_equalPn) nat_rall_ok
def ft_rsamen : XF := .mk 26 (.one 4) (.aft (.seq (g_ 1 [p_ 0 4 (.mv (.c (.bool false)))]) (.seq (.seq (g_ 5 [p_ 0 6 (m_ 0), p_ 1 7 (k_ 6), p_ 2 8 (m_ 1), p_ 3 9 (k_ 8), p_ 4 10 (.bin 3 5 (.t 7) (.t 9))]) (.cond (.t 10) (.seq (g_ 1 [p_ 0 4 (.mv (.c (.bool false)))]) .ret) .skip)) (.seq (.seq (g_ 1 [p_ 0 5 (.mv (i_ 0))]) (.block 2 (.loop [0, 1, 4, 5, 11, 12, 13, 14, 15, 16, 17, 18, 19, 20, 21, 22, 23, 24, 25] (.seq (.seq (g_ 4 [p_ 0 11 (m_ 5), p_ 1 12 (m_ 0), p_ 2 13 (k_ 12), p_ 3 14 (.bin 3 0 (.t 11) (.t 13))]) (.cond (.t 14) .skip (.exit 2))) (.seq (.block 3 (.seq (h_ 9 [p_ 0 17 (m_ 0), p_ 1 18 (m_ 5), p_ 2 19 (.ixs 5 (.t 17) (.t 18)), r_ 3 20 (.ld true 5 (.t 19)), p_ 4 21 (m_ 1), p_ 5 22 (m_ 5), p_ 6 23 (.ixs 5 (.t 21) (.t 22)), r_ 7 24 (.ld true 5 (.t 23)), p_ 8 25 (.eqs true 2 (.st [(0, 1, false, .int), (1, 1, false, .int), (2, 1, false, .str), (3, 1, false, .str), (4, 1, false, .int)]) (.t 20) (.t 24))]) (.cond (.t 25) (.seq (g_ 1 [p_ 0 4 (.mv (.c (.bool false)))]) .ret) .skip))) (g_ 3 [p_ 0 15 (m_ 5), p_ 1 16 (.bin 0 0 (.t 15) (i_ 1)), p_ 2 5 (m_ 16)])))))) (.seq (g_ 1 [p_ 0 4 (.mv (.c (.bool true)))]) .ret)))) [(0, [.up 4]), (1, [.up 4])])
theorem ft_rsamen_ok : chkF Tryd.prog 63 ft_rsamen = true := by kernel_rfl
structure A_rsamen where
  h : Value
  l : List PtR
structure R_rsamen where
  q : Prop
def po_rsamen (p : A_rsamen) (r : R_rsamen) : Prop := r.q ↔ p.l = []
noncomputable def I_rsamen (p : A_rsamen) : IE := ([.nilS, .sy (.imm p.h 5 PtR p.l encP)], .leaf, 0)
noncomputable def out_rsamen (p : A_rsamen) (K : KE) : Bool := allB fun r : R_rsamen => iP (po_rsamen p r) (K (.sy (.bool r.q)) .leaf 0) true
theorem fin_rsamen {p : A_rsamen} {K : KE} (hK : out_rsamen p K = true) (r : R_rsamen) (h : po_rsamen p r) : K (.sy (.bool r.q)) .leaf 0 = true := ifB_use h (allB_ok hK r)
theorem vf_rsamen (p : A_rsamen) (K : KE) (hK : out_rsamen p K = true) : (funE 0 (cfT nat_equalPn) noLp 600 ft_rsamen (I_rsamen p).1 (I_rsamen p).2.1 (I_rsamen p).2.2 K) = true := by
  refine Eq.trans (b := (iP (¬ (0 : Int) = (p.l.length : Int)) (K (.sy (.bool (false = true))) .leaf 0) (K (.sy (.bool (true = true))) .leaf 0))) (by kernel_rfl) ?_
  refine iI (fun hc1 => ?_) (fun hc1 => ?_)
  exact fin_rsamen hK ⟨false = true⟩ (by dsimp only [po_rsamen] <;> (first | (simp_all ; done) | (simp ; intro e ; simp [e] at * ; done) | (simp ; exact List.eq_nil_of_length_eq_zero (by omega))))
  exact fin_rsamen hK ⟨true = true⟩ (by dsimp only [po_rsamen] <;> (first | (simp_all ; done) | (simp ; intro e ; simp [e] at * ; done) | (simp ; exact List.eq_nil_of_length_eq_zero (by omega))))
noncomputable def nat_rsamen := natC nat_equalPn 0 (esOf I_rsamen out_rsamen) 63 [(0, 8), (1, 23)]
theorem nat_rsamen_ok : NatsOk Tryd.prog nat_rsamen := natC_ok (natE_pn (f := 63) (k := 0) (cfT_ok nat_equalPn_ok) ft_rsamen_ok (by rfl) (by rfl) vf_rsamen) nat_equalPn_ok
def ft_wordOut : XF := .mk 14 (.one 2) (.seq (g_ 1 [p_ 0 2 (.mv (.c (.str [])))]) (.seq (g_ 3 [p_ 0 4 (.bld [.str [], .str [], .str [], .str [], .str [], .str [], .str [], .str [], .str [], .str [], .str [], .str []] [(0, 1), (1, 1), (2, 1), (3, 1), (4, 1), (5, 1), (6, 1), (7, 1), (8, 1), (9, 1), (10, 1), (11, 1)] [.c (.str [105, 110, 118, 111, 107, 101]), .c (.str [115, 108, 97, 121]), .c (.str [100, 101, 108, 105, 118, 101, 114]), .c (.str [100, 114, 111, 112]), .c (.str [116, 119, 105, 99, 101]), .c (.str [115, 112, 111, 105, 108]), .c (.str [116, 105, 99, 107]), .c (.str [115, 117, 115, 112, 101, 99, 116]), .c (.str [99, 114, 97, 115, 104]), .c (.str [114, 101, 115, 116, 97, 114, 116]), .c (.str [106, 111, 105, 110]), .c (.str [108, 101, 97, 118, 101])]), e_ 1 3 (.al 125 [.str [], .str [], .str [], .str [], .str [], .str [], .str [], .str [], .str [], .str [], .str [], .str []]), e0_ 2 (.st 12 (.t 3) (.t 4))]) (.seq (.seq (g_ 6 [p_ 0 5 (m_ 0), p_ 1 6 (.bin 3 0 (.t 5) (i_ 0)), p_ 2 7 (m_ 6), pg_ 3 8 7 false (m_ 0), pg_ 4 9 7 false (.bin 3 3 (.t 8) (i_ 12)), p_ 5 10 (.pick (.t 7) (.c (.bool true)) (.t 9))]) (.cond (.t 10) (.seq (g_ 1 [p_ 0 2 (.mv (.c (.str [])))]) .ret) .skip)) (.seq (g_ 4 [p_ 0 11 (m_ 0), p_ 1 12 (.ixa 12 1 (.t 3) (.t 11)), r_ 2 13 (l_ 12), p_ 3 2 (m_ 13)]) .ret))))
theorem ft_wordOut_ok : chkF Tryd.prog 42 ft_wordOut = true := by kernel_rfl
structure A_wordOut where
  k : Int
noncomputable def I_wordOut (p : A_wordOut) : IE := ([.sy (.int 0 p.k)], .leaf, 0)
noncomputable def out_wordOut (p : A_wordOut) (K : KE) : Bool := K (.str []) .leaf 0
def pre_wordOut (p : A_wordOut) : Prop := ¬ (0 ≤ p.k ∧ p.k ≤ 11)
theorem vf_wordOut (p : A_wordOut) (K : KE) (hpre : pre_wordOut p) (hK : out_wordOut p K = true) : (funE 0 (cfT nat_rsamen) noLp 600 ft_wordOut (I_wordOut p).1 (I_wordOut p).2.1 (I_wordOut p).2.2 K) = true := by
  refine Eq.trans (b := (iP (p.k < (0 : Int)) (K (.str []) .leaf 0) (iP ((12 : Int) ≤ p.k) (K (.str []) .leaf 0) (iP (p.k = 0) (K (.str [105, 110, 118, 111, 107, 101]) .leaf 0) (iP (p.k = 1) (K (.str [115, 108, 97, 121]) .leaf 0) (iP (p.k = 2) (K (.str [100, 101, 108, 105, 118, 101, 114]) .leaf 0) (iP (p.k = 3) (K (.str [100, 114, 111, 112]) .leaf 0) (iP (p.k = 4) (K (.str [116, 119, 105, 99, 101]) .leaf 0) (iP (p.k = 5) (K (.str [115, 112, 111, 105, 108]) .leaf 0) (iP (p.k = 6) (K (.str [116, 105, 99, 107]) .leaf 0) (iP (p.k = 7) (K (.str [115, 117, 115, 112, 101, 99, 116]) .leaf 0) (iP (p.k = 8) (K (.str [99, 114, 97, 115, 104]) .leaf 0) (iP (p.k = 9) (K (.str [114, 101, 115, 116, 97, 114, 116]) .leaf 0) (iP (p.k = 10) (K (.str [106, 111, 105, 110]) .leaf 0) (iP (p.k = 11) (K (.str [108, 101, 97, 118, 101]) .leaf 0) (mP (False) (true))))))))))))))))) (by kernel_rfl) ?_
  dsimp only [pre_wordOut] at hpre
  refine iI (fun hc1 => ?_) (fun hc1 => ?_)
  exact hK
  refine iI (fun hc2 => ?_) (fun hc2 => ?_)
  exact hK
  refine iI (fun hc3 => ?_) (fun hc3 => ?_)
  exfalso ; omega
  refine iI (fun hc4 => ?_) (fun hc4 => ?_)
  exfalso ; omega
  refine iI (fun hc5 => ?_) (fun hc5 => ?_)
  exfalso ; omega
  refine iI (fun hc6 => ?_) (fun hc6 => ?_)
  exfalso ; omega
  refine iI (fun hc7 => ?_) (fun hc7 => ?_)
  exfalso ; omega
  refine iI (fun hc8 => ?_) (fun hc8 => ?_)
  exfalso ; omega
  refine iI (fun hc9 => ?_) (fun hc9 => ?_)
  exfalso ; omega
  refine iI (fun hc10 => ?_) (fun hc10 => ?_)
  exfalso ; omega
  refine iI (fun hc11 => ?_) (fun hc11 => ?_)
  exfalso ; omega
  refine iI (fun hc12 => ?_) (fun hc12 => ?_)
  exfalso ; omega
  refine iI (fun hc13 => ?_) (fun hc13 => ?_)
  exfalso ; omega
  refine iI (fun hc14 => ?_) (fun hc14 => ?_)
  exfalso ; omega
  refine mI (by omega) ?_
  rfl
noncomputable def nat_wordOut := natC nat_rsamen 0 (esOf I_wordOut (spP pre_wordOut out_wordOut)) 42 [(0, 20)]
theorem nat_wordOut_ok : NatsOk Tryd.prog nat_wordOut := natC_ok (natE_pl (f := 42) (k := 0) (cfT_ok nat_rsamen_ok) ft_wordOut_ok (by rfl) (by rfl) vf_wordOut) nat_rsamen_ok
def ft_wordsOut : XF := .mk 24 (.two 2 3) (.seq (g_ 2 [p_ 0 2 (.mv (.c (.str []))), p_ 1 3 (.mv (.c (.str [])))]) (.seq (g_ 2 [e_ 0 6 (.bsl 9 1 12 [.str [], .str [], .str [], .str [], .str [], .str [], .str [], .str [], .str [], .str [], .str [], .str []] [(0, 1), (1, 1), (2, 1), (3, 1), (4, 1), (5, 1), (6, 1), (7, 1), (8, 1), (9, 1), (10, 1), (11, 1)] [.c (.str [105, 110, 118, 111, 107, 101]), .c (.str [115, 108, 97, 121]), .c (.str [100, 101, 108, 105, 118, 101, 114]), .c (.str [100, 114, 111, 112]), .c (.str [116, 119, 105, 99, 101]), .c (.str [115, 112, 111, 105, 108]), .c (.str [116, 105, 99, 107]), .c (.str [115, 117, 115, 112, 101, 99, 116]), .c (.str [99, 114, 97, 115, 104]), .c (.str [114, 101, 115, 116, 97, 114, 116]), .c (.str [106, 111, 105, 110]), .c (.str [108, 101, 97, 118, 101])]), p_ 1 4 (m_ 6)]) (.seq (g_ 2 [e_ 0 7 (.bsl 9 1 12 [.str [], .str [], .str [], .str [], .str [], .str [], .str [], .str [], .str [], .str [], .str [], .str []] [(0, 1), (1, 1), (2, 1), (3, 1), (4, 1), (5, 1), (6, 1), (7, 1), (8, 1), (9, 1), (10, 1), (11, 1)] [.c (.str [120, 109]), .c (.str [120, 121]), .c (.str [105]), .c (.str [105]), .c (.str [105]), .c (.str [105, 97, 107]), .c (.str [120]), .c (.str [120, 121]), .c (.str [120]), .c (.str [120]), .c (.str [120]), .c (.str [120])]), p_ 1 5 (m_ 7)]) (.seq (.seq (g_ 8 [p_ 0 8 (m_ 0), p_ 1 9 (.bin 3 0 (.t 8) (i_ 0)), p_ 2 10 (m_ 9), pg_ 3 11 10 false (m_ 0), pg_ 4 12 10 false (m_ 4), pg_ 5 13 10 false (k_ 12), pg_ 6 14 10 false (.bin 3 3 (.t 11) (.t 13)), p_ 7 15 (.pick (.t 10) (.c (.bool true)) (.t 14))]) (.cond (.t 15) (.seq (g_ 2 [p_ 0 2 (.mv (.c (.str []))), p_ 1 3 (.mv (.c (.str [])))]) .ret) .skip)) (.seq (h_ 10 [p_ 0 16 (m_ 4), p_ 1 17 (m_ 0), p_ 2 18 (.ixs 1 (.t 16) (.t 17)), r_ 3 19 (l_ 18), p_ 4 20 (m_ 5), p_ 5 21 (m_ 0), p_ 6 22 (.ixs 1 (.t 20) (.t 21)), r_ 7 23 (l_ 22), p_ 8 2 (m_ 19), p_ 9 3 (m_ 23)]) .ret)))))
theorem ft_wordsOut_ok : chkF Tryd.prog 49 ft_wordsOut = true := by kernel_rfl
structure A_wordsOut where
  k : Int
noncomputable def I_wordsOut (p : A_wordsOut) : IE := ([.sy (.int 0 p.k)], .leaf, 0)
noncomputable def out_wordsOut (p : A_wordsOut) (K : KE) : Bool := K (.tup [.str [], .str []]) .leaf 0
def pre_wordsOut (p : A_wordsOut) : Prop := ¬ (0 ≤ p.k ∧ p.k ≤ 11)
theorem vf_wordsOut (p : A_wordsOut) (K : KE) (hpre : pre_wordsOut p) (hK : out_wordsOut p K = true) : (funE 0 (cfT nat_wordOut) noLp 600 ft_wordsOut (I_wordsOut p).1 (I_wordsOut p).2.1 (I_wordsOut p).2.2 K) = true := by
  refine Eq.trans (b := (let z0 : Bool := (K (.tup [.str [100, 101, 108, 105, 118, 101, 114], .str [120]]) .leaf 0); let z1 : Bool := (K (.tup [.str [115, 117, 115, 112, 101, 99, 116], .str [120]]) .leaf 0); let z2 : Bool := (K (.tup [.str [114, 101, 115, 116, 97, 114, 116], .str [120]]) .leaf 0); let z3 : Bool := (K (.tup [.str [105, 110, 118, 111, 107, 101], .str [120]]) .leaf 0); let z4 : Bool := (K (.tup [.str [115, 112, 111, 105, 108], .str [120]]) .leaf 0); let z5 : Bool := (K (.tup [.str [116, 119, 105, 99, 101], .str [120]]) .leaf 0); let z6 : Bool := (K (.tup [.str [108, 101, 97, 118, 101], .str [120]]) .leaf 0); let z7 : Bool := (K (.tup [.str [99, 114, 97, 115, 104], .str [120]]) .leaf 0); let z8 : Bool := (K (.tup [.str [100, 114, 111, 112], .str [120]]) .leaf 0); let z9 : Bool := (K (.tup [.str [106, 111, 105, 110], .str [120]]) .leaf 0); let z10 : Bool := (K (.tup [.str [115, 108, 97, 121], .str [120]]) .leaf 0); let z11 : Bool := (K (.tup [.str [116, 105, 99, 107], .str [120]]) .leaf 0); let z12 : Bool := (K (.tup [.str [100, 101, 108, 105, 118, 101, 114], .str [105]]) .leaf 0); let z13 : Bool := (K (.tup [.str [115, 117, 115, 112, 101, 99, 116], .str [105]]) .leaf 0); let z14 : Bool := (K (.tup [.str [114, 101, 115, 116, 97, 114, 116], .str [105]]) .leaf 0); let z15 : Bool := (K (.tup [.str [105, 110, 118, 111, 107, 101], .str [105]]) .leaf 0); let z16 : Bool := (K (.tup [.str [115, 112, 111, 105, 108], .str [105]]) .leaf 0); let z17 : Bool := (K (.tup [.str [116, 119, 105, 99, 101], .str [105]]) .leaf 0); let z18 : Bool := (K (.tup [.str [108, 101, 97, 118, 101], .str [105]]) .leaf 0); let z19 : Bool := (K (.tup [.str [99, 114, 97, 115, 104], .str [105]]) .leaf 0); let z20 : Bool := (K (.tup [.str [100, 114, 111, 112], .str [105]]) .leaf 0); let z21 : Bool := (K (.tup [.str [106, 111, 105, 110], .str [105]]) .leaf 0); let z22 : Bool := (K (.tup [.str [115, 108, 97, 121], .str [105]]) .leaf 0); let z23 : Bool := (K (.tup [.str [116, 105, 99, 107], .str [105]]) .leaf 0); let z24 : Bool := (K (.tup [.str [100, 101, 108, 105, 118, 101, 114], .str [120, 121]]) .leaf 0); let z25 : Bool := (K (.tup [.str [115, 117, 115, 112, 101, 99, 116], .str [120, 121]]) .leaf 0); let z26 : Bool := (K (.tup [.str [114, 101, 115, 116, 97, 114, 116], .str [120, 121]]) .leaf 0); let z27 : Bool := (K (.tup [.str [105, 110, 118, 111, 107, 101], .str [120, 121]]) .leaf 0); let z28 : Bool := (K (.tup [.str [115, 112, 111, 105, 108], .str [120, 121]]) .leaf 0); let z29 : Bool := (K (.tup [.str [116, 119, 105, 99, 101], .str [120, 121]]) .leaf 0); let z30 : Bool := (K (.tup [.str [108, 101, 97, 118, 101], .str [120, 121]]) .leaf 0); let z31 : Bool := (K (.tup [.str [99, 114, 97, 115, 104], .str [120, 121]]) .leaf 0); let z32 : Bool := (K (.tup [.str [100, 114, 111, 112], .str [120, 121]]) .leaf 0); let z33 : Bool := (K (.tup [.str [106, 111, 105, 110], .str [120, 121]]) .leaf 0); let z34 : Bool := (K (.tup [.str [115, 108, 97, 121], .str [120, 121]]) .leaf 0); let z35 : Bool := (K (.tup [.str [116, 105, 99, 107], .str [120, 121]]) .leaf 0); iP (p.k < (0 : Int)) (K (.tup [.str [], .str []]) .leaf 0) (iP ((12 : Int) ≤ p.k) (K (.tup [.str [], .str []]) .leaf 0) (iP (p.k = 0) (iP (p.k = 0) (K (.tup [.str [105, 110, 118, 111, 107, 101], .str [120, 109]]) .leaf 0) (iP (p.k = 1) z27 (iP (p.k = 2) z15 (iP (p.k = 3) z15 (iP (p.k = 4) z15 (iP (p.k = 5) (K (.tup [.str [105, 110, 118, 111, 107, 101], .str [105, 97, 107]]) .leaf 0) (iP (p.k = 6) z3 (iP (p.k = 7) z27 (iP (p.k = 8) z3 (iP (p.k = 9) z3 (iP (p.k = 10) z3 (iP (p.k = 11) z3 (mP (False) (true)))))))))))))) (iP (p.k = 1) (iP (p.k = 0) (K (.tup [.str [115, 108, 97, 121], .str [120, 109]]) .leaf 0) (iP (p.k = 1) z34 (iP (p.k = 2) z22 (iP (p.k = 3) z22 (iP (p.k = 4) z22 (iP (p.k = 5) (K (.tup [.str [115, 108, 97, 121], .str [105, 97, 107]]) .leaf 0) (iP (p.k = 6) z10 (iP (p.k = 7) z34 (iP (p.k = 8) z10 (iP (p.k = 9) z10 (iP (p.k = 10) z10 (iP (p.k = 11) z10 (mP (False) (true)))))))))))))) (iP (p.k = 2) (iP (p.k = 0) (K (.tup [.str [100, 101, 108, 105, 118, 101, 114], .str [120, 109]]) .leaf 0) (iP (p.k = 1) z24 (iP (p.k = 2) z12 (iP (p.k = 3) z12 (iP (p.k = 4) z12 (iP (p.k = 5) (K (.tup [.str [100, 101, 108, 105, 118, 101, 114], .str [105, 97, 107]]) .leaf 0) (iP (p.k = 6) z0 (iP (p.k = 7) z24 (iP (p.k = 8) z0 (iP (p.k = 9) z0 (iP (p.k = 10) z0 (iP (p.k = 11) z0 (mP (False) (true)))))))))))))) (iP (p.k = 3) (iP (p.k = 0) (K (.tup [.str [100, 114, 111, 112], .str [120, 109]]) .leaf 0) (iP (p.k = 1) z32 (iP (p.k = 2) z20 (iP (p.k = 3) z20 (iP (p.k = 4) z20 (iP (p.k = 5) (K (.tup [.str [100, 114, 111, 112], .str [105, 97, 107]]) .leaf 0) (iP (p.k = 6) z8 (iP (p.k = 7) z32 (iP (p.k = 8) z8 (iP (p.k = 9) z8 (iP (p.k = 10) z8 (iP (p.k = 11) z8 (mP (False) (true)))))))))))))) (iP (p.k = 4) (iP (p.k = 0) (K (.tup [.str [116, 119, 105, 99, 101], .str [120, 109]]) .leaf 0) (iP (p.k = 1) z29 (iP (p.k = 2) z17 (iP (p.k = 3) z17 (iP (p.k = 4) z17 (iP (p.k = 5) (K (.tup [.str [116, 119, 105, 99, 101], .str [105, 97, 107]]) .leaf 0) (iP (p.k = 6) z5 (iP (p.k = 7) z29 (iP (p.k = 8) z5 (iP (p.k = 9) z5 (iP (p.k = 10) z5 (iP (p.k = 11) z5 (mP (False) (true)))))))))))))) (iP (p.k = 5) (iP (p.k = 0) (K (.tup [.str [115, 112, 111, 105, 108], .str [120, 109]]) .leaf 0) (iP (p.k = 1) z28 (iP (p.k = 2) z16 (iP (p.k = 3) z16 (iP (p.k = 4) z16 (iP (p.k = 5) (K (.tup [.str [115, 112, 111, 105, 108], .str [105, 97, 107]]) .leaf 0) (iP (p.k = 6) z4 (iP (p.k = 7) z28 (iP (p.k = 8) z4 (iP (p.k = 9) z4 (iP (p.k = 10) z4 (iP (p.k = 11) z4 (mP (False) (true)))))))))))))) (iP (p.k = 6) (iP (p.k = 0) (K (.tup [.str [116, 105, 99, 107], .str [120, 109]]) .leaf 0) (iP (p.k = 1) z35 (iP (p.k = 2) z23 (iP (p.k = 3) z23 (iP (p.k = 4) z23 (iP (p.k = 5) (K (.tup [.str [116, 105, 99, 107], .str [105, 97, 107]]) .leaf 0) (iP (p.k = 6) z11 (iP (p.k = 7) z35 (iP (p.k = 8) z11 (iP (p.k = 9) z11 (iP (p.k = 10) z11 (iP (p.k = 11) z11 (mP (False) (true)))))))))))))) (iP (p.k = 7) (iP (p.k = 0) (K (.tup [.str [115, 117, 115, 112, 101, 99, 116], .str [120, 109]]) .leaf 0) (iP (p.k = 1) z25 (iP (p.k = 2) z13 (iP (p.k = 3) z13 (iP (p.k = 4) z13 (iP (p.k = 5) (K (.tup [.str [115, 117, 115, 112, 101, 99, 116], .str [105, 97, 107]]) .leaf 0) (iP (p.k = 6) z1 (iP (p.k = 7) z25 (iP (p.k = 8) z1 (iP (p.k = 9) z1 (iP (p.k = 10) z1 (iP (p.k = 11) z1 (mP (False) (true)))))))))))))) (iP (p.k = 8) (iP (p.k = 0) (K (.tup [.str [99, 114, 97, 115, 104], .str [120, 109]]) .leaf 0) (iP (p.k = 1) z31 (iP (p.k = 2) z19 (iP (p.k = 3) z19 (iP (p.k = 4) z19 (iP (p.k = 5) (K (.tup [.str [99, 114, 97, 115, 104], .str [105, 97, 107]]) .leaf 0) (iP (p.k = 6) z7 (iP (p.k = 7) z31 (iP (p.k = 8) z7 (iP (p.k = 9) z7 (iP (p.k = 10) z7 (iP (p.k = 11) z7 (mP (False) (true)))))))))))))) (iP (p.k = 9) (iP (p.k = 0) (K (.tup [.str [114, 101, 115, 116, 97, 114, 116], .str [120, 109]]) .leaf 0) (iP (p.k = 1) z26 (iP (p.k = 2) z14 (iP (p.k = 3) z14 (iP (p.k = 4) z14 (iP (p.k = 5) (K (.tup [.str [114, 101, 115, 116, 97, 114, 116], .str [105, 97, 107]]) .leaf 0) (iP (p.k = 6) z2 (iP (p.k = 7) z26 (iP (p.k = 8) z2 (iP (p.k = 9) z2 (iP (p.k = 10) z2 (iP (p.k = 11) z2 (mP (False) (true)))))))))))))) (iP (p.k = 10) (iP (p.k = 0) (K (.tup [.str [106, 111, 105, 110], .str [120, 109]]) .leaf 0) (iP (p.k = 1) z33 (iP (p.k = 2) z21 (iP (p.k = 3) z21 (iP (p.k = 4) z21 (iP (p.k = 5) (K (.tup [.str [106, 111, 105, 110], .str [105, 97, 107]]) .leaf 0) (iP (p.k = 6) z9 (iP (p.k = 7) z33 (iP (p.k = 8) z9 (iP (p.k = 9) z9 (iP (p.k = 10) z9 (iP (p.k = 11) z9 (mP (False) (true)))))))))))))) (iP (p.k = 11) (iP (p.k = 0) (K (.tup [.str [108, 101, 97, 118, 101], .str [120, 109]]) .leaf 0) (iP (p.k = 1) z30 (iP (p.k = 2) z18 (iP (p.k = 3) z18 (iP (p.k = 4) z18 (iP (p.k = 5) (K (.tup [.str [108, 101, 97, 118, 101], .str [105, 97, 107]]) .leaf 0) (iP (p.k = 6) z6 (iP (p.k = 7) z30 (iP (p.k = 8) z6 (iP (p.k = 9) z6 (iP (p.k = 10) z6 (iP (p.k = 11) z6 (mP (False) (true)))))))))))))) (mP (False) (true))))))))))))))))) (by kernel_rfl) ?_
  dsimp only [pre_wordsOut] at hpre
  refine iI (fun hc1 => ?_) (fun hc1 => ?_)
  exact hK
  refine iI (fun hc2 => ?_) (fun hc2 => ?_)
  exact hK
  refine iI (fun hc3 => ?_) (fun hc3 => ?_)
  refine iI (fun hc4 => ?_) (fun hc4 => ?_)
  exfalso ; omega
  refine iI (fun hc5 => ?_) (fun hc5 => ?_)
  exfalso ; omega
  refine iI (fun hc6 => ?_) (fun hc6 => ?_)
  exfalso ; omega
  refine iI (fun hc7 => ?_) (fun hc7 => ?_)
  exfalso ; omega
  refine iI (fun hc8 => ?_) (fun hc8 => ?_)
  exfalso ; omega
  refine iI (fun hc9 => ?_) (fun hc9 => ?_)
  exfalso ; omega
  refine iI (fun hc10 => ?_) (fun hc10 => ?_)
  exfalso ; omega
  refine iI (fun hc11 => ?_) (fun hc11 => ?_)
  exfalso ; omega
  refine iI (fun hc12 => ?_) (fun hc12 => ?_)
  exfalso ; omega
  refine iI (fun hc13 => ?_) (fun hc13 => ?_)
  exfalso ; omega
  refine iI (fun hc14 => ?_) (fun hc14 => ?_)
  exfalso ; omega
  refine iI (fun hc15 => ?_) (fun hc15 => ?_)
  exfalso ; omega
  refine mI (by omega) ?_
  rfl
  refine iI (fun hc16 => ?_) (fun hc16 => ?_)
  refine iI (fun hc17 => ?_) (fun hc17 => ?_)
  exfalso ; omega
  refine iI (fun hc18 => ?_) (fun hc18 => ?_)
  exfalso ; omega
  refine iI (fun hc19 => ?_) (fun hc19 => ?_)
  exfalso ; omega
  refine iI (fun hc20 => ?_) (fun hc20 => ?_)
  exfalso ; omega
  refine iI (fun hc21 => ?_) (fun hc21 => ?_)
  exfalso ; omega
  refine iI (fun hc22 => ?_) (fun hc22 => ?_)
  exfalso ; omega
  refine iI (fun hc23 => ?_) (fun hc23 => ?_)
  exfalso ; omega
  refine iI (fun hc24 => ?_) (fun hc24 => ?_)
  exfalso ; omega
  refine iI (fun hc25 => ?_) (fun hc25 => ?_)
  exfalso ; omega
  refine iI (fun hc26 => ?_) (fun hc26 => ?_)
  exfalso ; omega
  refine iI (fun hc27 => ?_) (fun hc27 => ?_)
  exfalso ; omega
  refine iI (fun hc28 => ?_) (fun hc28 => ?_)
  exfalso ; omega
  refine mI (by omega) ?_
  rfl
  refine iI (fun hc29 => ?_) (fun hc29 => ?_)
  refine iI (fun hc30 => ?_) (fun hc30 => ?_)
  exfalso ; omega
  refine iI (fun hc31 => ?_) (fun hc31 => ?_)
  exfalso ; omega
  refine iI (fun hc32 => ?_) (fun hc32 => ?_)
  exfalso ; omega
  refine iI (fun hc33 => ?_) (fun hc33 => ?_)
  exfalso ; omega
  refine iI (fun hc34 => ?_) (fun hc34 => ?_)
  exfalso ; omega
  refine iI (fun hc35 => ?_) (fun hc35 => ?_)
  exfalso ; omega
  refine iI (fun hc36 => ?_) (fun hc36 => ?_)
  exfalso ; omega
  refine iI (fun hc37 => ?_) (fun hc37 => ?_)
  exfalso ; omega
  refine iI (fun hc38 => ?_) (fun hc38 => ?_)
  exfalso ; omega
  refine iI (fun hc39 => ?_) (fun hc39 => ?_)
  exfalso ; omega
  refine iI (fun hc40 => ?_) (fun hc40 => ?_)
  exfalso ; omega
  refine iI (fun hc41 => ?_) (fun hc41 => ?_)
  exfalso ; omega
  refine mI (by omega) ?_
  rfl
  refine iI (fun hc42 => ?_) (fun hc42 => ?_)
  refine iI (fun hc43 => ?_) (fun hc43 => ?_)
  exfalso ; omega
  refine iI (fun hc44 => ?_) (fun hc44 => ?_)
  exfalso ; omega
  refine iI (fun hc45 => ?_) (fun hc45 => ?_)
  exfalso ; omega
  refine iI (fun hc46 => ?_) (fun hc46 => ?_)
  exfalso ; omega
  refine iI (fun hc47 => ?_) (fun hc47 => ?_)
  exfalso ; omega
  refine iI (fun hc48 => ?_) (fun hc48 => ?_)
  exfalso ; omega
  refine iI (fun hc49 => ?_) (fun hc49 => ?_)
  exfalso ; omega
  refine iI (fun hc50 => ?_) (fun hc50 => ?_)
  exfalso ; omega
  refine iI (fun hc51 => ?_) (fun hc51 => ?_)
  exfalso ; omega
  refine iI (fun hc52 => ?_) (fun hc52 => ?_)
  exfalso ; omega
  refine iI (fun hc53 => ?_) (fun hc53 => ?_)
  exfalso ; omega
  refine iI (fun hc54 => ?_) (fun hc54 => ?_)
  exfalso ; omega
  refine mI (by omega) ?_
  rfl
  refine iI (fun hc55 => ?_) (fun hc55 => ?_)
  refine iI (fun hc56 => ?_) (fun hc56 => ?_)
  exfalso ; omega
  refine iI (fun hc57 => ?_) (fun hc57 => ?_)
  exfalso ; omega
  refine iI (fun hc58 => ?_) (fun hc58 => ?_)
  exfalso ; omega
  refine iI (fun hc59 => ?_) (fun hc59 => ?_)
  exfalso ; omega
  refine iI (fun hc60 => ?_) (fun hc60 => ?_)
  exfalso ; omega
  refine iI (fun hc61 => ?_) (fun hc61 => ?_)
  exfalso ; omega
  refine iI (fun hc62 => ?_) (fun hc62 => ?_)
  exfalso ; omega
  refine iI (fun hc63 => ?_) (fun hc63 => ?_)
  exfalso ; omega
  refine iI (fun hc64 => ?_) (fun hc64 => ?_)
  exfalso ; omega
  refine iI (fun hc65 => ?_) (fun hc65 => ?_)
  exfalso ; omega
  refine iI (fun hc66 => ?_) (fun hc66 => ?_)
  exfalso ; omega
  refine iI (fun hc67 => ?_) (fun hc67 => ?_)
  exfalso ; omega
  refine mI (by omega) ?_
  rfl
  refine iI (fun hc68 => ?_) (fun hc68 => ?_)
  refine iI (fun hc69 => ?_) (fun hc69 => ?_)
  exfalso ; omega
  refine iI (fun hc70 => ?_) (fun hc70 => ?_)
  exfalso ; omega
  refine iI (fun hc71 => ?_) (fun hc71 => ?_)
  exfalso ; omega
  refine iI (fun hc72 => ?_) (fun hc72 => ?_)
  exfalso ; omega
  refine iI (fun hc73 => ?_) (fun hc73 => ?_)
  exfalso ; omega
  refine iI (fun hc74 => ?_) (fun hc74 => ?_)
  exfalso ; omega
  refine iI (fun hc75 => ?_) (fun hc75 => ?_)
  exfalso ; omega
  refine iI (fun hc76 => ?_) (fun hc76 => ?_)
  exfalso ; omega
  refine iI (fun hc77 => ?_) (fun hc77 => ?_)
  exfalso ; omega
  refine iI (fun hc78 => ?_) (fun hc78 => ?_)
  exfalso ; omega
  refine iI (fun hc79 => ?_) (fun hc79 => ?_)
  exfalso ; omega
  refine iI (fun hc80 => ?_) (fun hc80 => ?_)
  exfalso ; omega
  refine mI (by omega) ?_
  rfl
  refine iI (fun hc81 => ?_) (fun hc81 => ?_)
  refine iI (fun hc82 => ?_) (fun hc82 => ?_)
  exfalso ; omega
  refine iI (fun hc83 => ?_) (fun hc83 => ?_)
  exfalso ; omega
  refine iI (fun hc84 => ?_) (fun hc84 => ?_)
  exfalso ; omega
  refine iI (fun hc85 => ?_) (fun hc85 => ?_)
  exfalso ; omega
  refine iI (fun hc86 => ?_) (fun hc86 => ?_)
  exfalso ; omega
  refine iI (fun hc87 => ?_) (fun hc87 => ?_)
  exfalso ; omega
  refine iI (fun hc88 => ?_) (fun hc88 => ?_)
  exfalso ; omega
  refine iI (fun hc89 => ?_) (fun hc89 => ?_)
  exfalso ; omega
  refine iI (fun hc90 => ?_) (fun hc90 => ?_)
  exfalso ; omega
  refine iI (fun hc91 => ?_) (fun hc91 => ?_)
  exfalso ; omega
  refine iI (fun hc92 => ?_) (fun hc92 => ?_)
  exfalso ; omega
  refine iI (fun hc93 => ?_) (fun hc93 => ?_)
  exfalso ; omega
  refine mI (by omega) ?_
  rfl
  refine iI (fun hc94 => ?_) (fun hc94 => ?_)
  refine iI (fun hc95 => ?_) (fun hc95 => ?_)
  exfalso ; omega
  refine iI (fun hc96 => ?_) (fun hc96 => ?_)
  exfalso ; omega
  refine iI (fun hc97 => ?_) (fun hc97 => ?_)
  exfalso ; omega
  refine iI (fun hc98 => ?_) (fun hc98 => ?_)
  exfalso ; omega
  refine iI (fun hc99 => ?_) (fun hc99 => ?_)
  exfalso ; omega
  refine iI (fun hc100 => ?_) (fun hc100 => ?_)
  exfalso ; omega
  refine iI (fun hc101 => ?_) (fun hc101 => ?_)
  exfalso ; omega
  refine iI (fun hc102 => ?_) (fun hc102 => ?_)
  exfalso ; omega
  refine iI (fun hc103 => ?_) (fun hc103 => ?_)
  exfalso ; omega
  refine iI (fun hc104 => ?_) (fun hc104 => ?_)
  exfalso ; omega
  refine iI (fun hc105 => ?_) (fun hc105 => ?_)
  exfalso ; omega
  refine iI (fun hc106 => ?_) (fun hc106 => ?_)
  exfalso ; omega
  refine mI (by omega) ?_
  rfl
  refine iI (fun hc107 => ?_) (fun hc107 => ?_)
  refine iI (fun hc108 => ?_) (fun hc108 => ?_)
  exfalso ; omega
  refine iI (fun hc109 => ?_) (fun hc109 => ?_)
  exfalso ; omega
  refine iI (fun hc110 => ?_) (fun hc110 => ?_)
  exfalso ; omega
  refine iI (fun hc111 => ?_) (fun hc111 => ?_)
  exfalso ; omega
  refine iI (fun hc112 => ?_) (fun hc112 => ?_)
  exfalso ; omega
  refine iI (fun hc113 => ?_) (fun hc113 => ?_)
  exfalso ; omega
  refine iI (fun hc114 => ?_) (fun hc114 => ?_)
  exfalso ; omega
  refine iI (fun hc115 => ?_) (fun hc115 => ?_)
  exfalso ; omega
  refine iI (fun hc116 => ?_) (fun hc116 => ?_)
  exfalso ; omega
  refine iI (fun hc117 => ?_) (fun hc117 => ?_)
  exfalso ; omega
  refine iI (fun hc118 => ?_) (fun hc118 => ?_)
  exfalso ; omega
  refine iI (fun hc119 => ?_) (fun hc119 => ?_)
  exfalso ; omega
  refine mI (by omega) ?_
  rfl
  refine iI (fun hc120 => ?_) (fun hc120 => ?_)
  refine iI (fun hc121 => ?_) (fun hc121 => ?_)
  exfalso ; omega
  refine iI (fun hc122 => ?_) (fun hc122 => ?_)
  exfalso ; omega
  refine iI (fun hc123 => ?_) (fun hc123 => ?_)
  exfalso ; omega
  refine iI (fun hc124 => ?_) (fun hc124 => ?_)
  exfalso ; omega
  refine iI (fun hc125 => ?_) (fun hc125 => ?_)
  exfalso ; omega
  refine iI (fun hc126 => ?_) (fun hc126 => ?_)
  exfalso ; omega
  refine iI (fun hc127 => ?_) (fun hc127 => ?_)
  exfalso ; omega
  refine iI (fun hc128 => ?_) (fun hc128 => ?_)
  exfalso ; omega
  refine iI (fun hc129 => ?_) (fun hc129 => ?_)
  exfalso ; omega
  refine iI (fun hc130 => ?_) (fun hc130 => ?_)
  exfalso ; omega
  refine iI (fun hc131 => ?_) (fun hc131 => ?_)
  exfalso ; omega
  refine iI (fun hc132 => ?_) (fun hc132 => ?_)
  exfalso ; omega
  refine mI (by omega) ?_
  rfl
  refine iI (fun hc133 => ?_) (fun hc133 => ?_)
  refine iI (fun hc134 => ?_) (fun hc134 => ?_)
  exfalso ; omega
  refine iI (fun hc135 => ?_) (fun hc135 => ?_)
  exfalso ; omega
  refine iI (fun hc136 => ?_) (fun hc136 => ?_)
  exfalso ; omega
  refine iI (fun hc137 => ?_) (fun hc137 => ?_)
  exfalso ; omega
  refine iI (fun hc138 => ?_) (fun hc138 => ?_)
  exfalso ; omega
  refine iI (fun hc139 => ?_) (fun hc139 => ?_)
  exfalso ; omega
  refine iI (fun hc140 => ?_) (fun hc140 => ?_)
  exfalso ; omega
  refine iI (fun hc141 => ?_) (fun hc141 => ?_)
  exfalso ; omega
  refine iI (fun hc142 => ?_) (fun hc142 => ?_)
  exfalso ; omega
  refine iI (fun hc143 => ?_) (fun hc143 => ?_)
  exfalso ; omega
  refine iI (fun hc144 => ?_) (fun hc144 => ?_)
  exfalso ; omega
  refine iI (fun hc145 => ?_) (fun hc145 => ?_)
  exfalso ; omega
  refine mI (by omega) ?_
  rfl
  refine iI (fun hc146 => ?_) (fun hc146 => ?_)
  refine iI (fun hc147 => ?_) (fun hc147 => ?_)
  exfalso ; omega
  refine iI (fun hc148 => ?_) (fun hc148 => ?_)
  exfalso ; omega
  refine iI (fun hc149 => ?_) (fun hc149 => ?_)
  exfalso ; omega
  refine iI (fun hc150 => ?_) (fun hc150 => ?_)
  exfalso ; omega
  refine iI (fun hc151 => ?_) (fun hc151 => ?_)
  exfalso ; omega
  refine iI (fun hc152 => ?_) (fun hc152 => ?_)
  exfalso ; omega
  refine iI (fun hc153 => ?_) (fun hc153 => ?_)
  exfalso ; omega
  refine iI (fun hc154 => ?_) (fun hc154 => ?_)
  exfalso ; omega
  refine iI (fun hc155 => ?_) (fun hc155 => ?_)
  exfalso ; omega
  refine iI (fun hc156 => ?_) (fun hc156 => ?_)
  exfalso ; omega
  refine iI (fun hc157 => ?_) (fun hc157 => ?_)
  exfalso ; omega
  refine iI (fun hc158 => ?_) (fun hc158 => ?_)
  exfalso ; omega
  refine mI (by omega) ?_
  rfl
  refine mI (by omega) ?_
  rfl
noncomputable def nat_wordsOut := natC nat_wordOut 0 (esOf I_wordsOut (spP pre_wordsOut out_wordsOut)) 49 [(0, 20)]
theorem nat_wordsOut_ok : NatsOk Tryd.prog nat_wordsOut := natC_ok (natE_pl (f := 49) (k := 0) (cfT_ok nat_wordOut_ok) ft_wordsOut_ok (by rfl) (by rfl) vf_wordsOut) nat_wordOut_ok
def ft_right : XF := .mk 50 (.one 2) (.aft (.seq (g_ 2 [e_ 0 1 (.box 52 (.t 0)), p_ 1 2 (.mv (.c (.bool false)))]) (.pre [.fixo 0 0 0 12] (.seq (.seq (h_ 11 [p_ 0 5 (f_ 0 1), r_ 1 6 (l_ 5), c_ 2 7 42 [.t 6], p_ 3 8 (.bin 5 0 (.t 7) (.c (.str []))), p_ 4 9 (m_ 8), rg_ 5 10 9 false (.ld true 9 (.t 1)), rg_ 6 11 9 false (.ld true 9 (.t 1)), cg_ 7 12 9 false 53 [.t 11], ag_ 5 10 9 false (.ld true 9 (.t 1)), cg_ 8 13 9 false 35 [.t 10, .t 12], pg_ 9 14 9 false (.un 0 (.t 13)), p_ 10 15 (.pick (.t 9) (.c (.bool true)) (.t 14))]) (.cond (.t 15) (.seq (g_ 1 [p_ 0 2 (.mv (.c (.bool false)))]) .ret) .skip)) (.seq (.seq (g_ 3 [c_ 0 16 43 [.t 1], p_ 1 17 (k_ 16), p_ 2 18 (.mv (i_ 0))]) (.block 2 (.loop [1, 2, 4, 16, 17, 18, 19, 20, 21, 22, 23, 24, 25, 26, 27, 28, 29, 30, 31, 32, 33, 34, 35, 36, 37, 38, 39, 40, 41, 42, 43, 44, 45, 46, 47, 48, 49] (.seq (g_ 1 [p_ 0 19 (.bin 3 0 (.t 18) (.t 17))]) (.seq (.cond (.t 19) .skip (.exit 2)) (.seq (.block 3 (.seq (g_ 3 [p_ 0 20 (.ixs 1 (.t 16) (.t 18)), r_ 1 21 (l_ 20), p_ 2 4 (m_ 21)]) (.seq (g_ 5 [p_ 0 22 (m_ 4), p_ 1 23 (n_ 22), r_ 2 24 (l_ 23), c_ 3 25 26 [.t 24], p_ 4 26 (.un 0 (.t 25))]) (.cond (.t 26) (.seq (g_ 1 [p_ 0 2 (.mv (.c (.bool false)))]) .ret) .skip)))) (g_ 2 [p_ 0 27 (.bin 0 0 (.t 18) (i_ 1)), p_ 1 18 (m_ 27)]))))))) (.seq (.seq (g_ 3 [p_ 0 28 (f_ 0 1), r_ 1 29 (l_ 28), p_ 2 30 (.bin 3 5 (.t 29) (i_ 0))]) (.cond (.t 30) (.seq (g_ 1 [p_ 0 2 (.mv (.c (.bool true)))]) .ret) .skip)) (.seq (h_ 20 [p_ 0 31 (f_ 8 1), r_ 1 32 (l_ 31), c_ 2 33 54 [.t 32], p_ 3 34 (m_ 33), pg_ 4 35 34 true (f_ 8 1), rg_ 5 36 34 true (l_ 35), pg_ 6 37 34 true (.ixs 5 (.t 36) (i_ 0)), pg_ 7 38 34 true (f_ 0 37), rg_ 8 39 34 true (l_ 38), pg_ 9 40 34 true (f_ 7 1), rg_ 10 41 34 true (l_ 40), pg_ 11 42 34 true (.bin 3 4 (.t 39) (.t 41)), p_ 12 43 (.pick (.t 34) (.t 42) (.c (.bool false))), p_ 13 44 (m_ 43), pg_ 14 45 44 true (f_ 8 1), rg_ 15 46 44 true (l_ 45), cg_ 16 47 44 true 55 [.t 46, .f 56], pg_ 17 48 44 true (.un 0 (.t 47)), p_ 18 49 (.pick (.t 44) (.t 48) (.c (.bool false))), p_ 19 2 (m_ 49)]) .ret)))))) [(0, [.up 2]), (1, [.up 2])])
theorem ft_right_ok : chkF Tryd.prog 30 ft_right = true := by kernel_rfl
structure A_right where
  o : OpR
structure R_right where
  q : Prop
def po_right (p : A_right) (r : R_right) : Prop := r.q ↔ opR p.o
noncomputable def I_right (p : A_right) : IE := ([.agg [.sy (.int 0 p.o.kind), .sy (.int 0 p.o.x), .sy (.int 0 p.o.y), .sy (.int 0 p.o.i), .sy (.int 0 p.o.at_), .sy (.int 0 p.o.mode), .sy (.int 3 p.o.mask), .sy (.int 1 p.o.grp), .sy (.imm p.o.hp 5 PtR p.o.ps encP)]], .leaf, 0)
noncomputable def out_right (p : A_right) (K : KE) : Bool := allB fun r : R_right => iP (po_right p r) (K (.sy (.bool r.q)) .leaf 0) true
def pre_right (p : A_right) : Prop := p.o.ps.length ≤ 10
theorem fin_right {p : A_right} {K : KE} (hK : out_right p K = true) (r : R_right) (h : po_right p r := by dsimp only [po_right] <;> ((first | rw [opR_0 (by assumption)] | rw [opR_1 (by assumption)] | rw [opR_2 (by assumption)] | rw [opR_3 (by assumption)] | rw [opR_4 (by assumption)] | rw [opR_5 (by assumption)] | rw [opR_6 (by assumption)] | rw [opR_7 (by assumption)] | rw [opR_8 (by assumption)] | rw [opR_9 (by assumption)] | rw [opR_10 (by assumption)] | rw [opR_11 (by assumption)] | rw [iff_false_intro (opR_no (by omega))]) ; first | (simp_all ; done) | (simp_all ; omega) | ((try unfold partsR) ; simp_all ; done) | ((try unfold partsR) ; simp_all ; omega) | ((try unfold partsR) ; constructor <;> intro h <;> simp_all <;> omega) | (constructor <;> intro h <;> simp_all <;> omega) | omega)) : K (.sy (.bool r.q)) .leaf 0 = true := ifB_use h (allB_ok hK r)
theorem vf_right (p : A_right) (K : KE) (hpre : pre_right p) (hK : out_right p K = true) : (funE 0 (cfT nat_wordsOut) noLp 600 ft_right (I_right p).1 (I_right p).2.1 (I_right p).2.2 K) = true := by
  refine Eq.trans (b := (let z0 : Bool := (K (.sy (.bool (false = true))) .leaf 0); let z1 : Bool := (K (.sy (.bool (true = true))) .leaf 0); iP (p.o.kind = 0) (must (Bool.and (prB (((.int 0 p.o.x) : SY) = (.int 0 p.o.x))) (Bool.and (prB (((.int 0 p.o.y) : SY) = (.int 0 p.o.y))) (Bool.and (prB (((.int 0 p.o.i) : SY) = (.int 0 p.o.i))) (Bool.and (prB (((.int 0 p.o.at_) : SY) = (.int 0 p.o.at_))) (Bool.and (prB (((.int 0 p.o.mode) : SY) = (.int 0 p.o.mode))) (Bool.and (prB (((.int 3 p.o.mask) : SY) = (.int 3 p.o.mask))) (Bool.and (prB (((.int 1 p.o.grp) : SY) = (.int 1 p.o.grp))) (Bool.and (prB (((.imm p.o.hp 5 PtR p.o.ps encP) : SY) = (.imm p.o.hp 5 PtR p.o.ps encP))) (true))))))))) (iP (p.o.x = p.o.x) (iP (p.o.y = (0 : Int)) (iP (p.o.i = (0 : Int)) (iP (p.o.at_ = (0 : Int)) (iP (p.o.mode = p.o.mode) (iP (p.o.mask = (0 : Int)) (iP (p.o.grp = p.o.grp) (useC (([.sy (.imm p.o.hp 5 PtR p.o.ps encP), .sy (.imm p.o.hp 5 PtR p.o.ps encP)], .leaf, 0)) I_equalP pre_equalP po_equalP fun p13 r12 => iP (¬ r12.q) z0 (iP ((0 : Int) ≤ p.o.x) (iP (¬ (p.o.x ≤ (1099511627776 : Int))) z0 (iP ((0 : Int) ≤ p.o.mode) (iP (¬ (p.o.mode ≤ (1099511627776 : Int))) z0 (iP ((p.o.ps.length : Int) < (1 : Int)) z0 (iP ((4 : Int) < (p.o.ps.length : Int)) z0 (useC (([.sy (.imm p.o.hp 5 PtR p.o.ps encP), .fn 72 []], .leaf, 0)) I_idx72 pre_idx72 po_idx72 fun p14 r13 => iP (¬ ((0 : Int) ≤ r13.z)) (mP (0 ≤ (0 : Int) ∧ (0 : Int) < (p.o.ps.length : Int)) (allB fun x1 : PtR => iP (p.o.ps[0]? = some x1) (iP (x1.g = p.o.grp) (useC (([.sy (.imm p.o.hp 5 PtR p.o.ps encP), .fn 56 []], .leaf, 0)) I_idx56 pre_idx56 po_idx56 fun p15 r14 => K (.sy (.bool (¬ ((0 : Int) ≤ r14.z)))) .leaf 0) z0) true)) z0)))) z0)) z0)) z0) z0) z0) z0) z0) z0) z0)) (iP (p.o.kind = 1) (must (Bool.and (prB (((.int 0 p.o.x) : SY) = (.int 0 p.o.x))) (Bool.and (prB (((.int 0 p.o.y) : SY) = (.int 0 p.o.y))) (Bool.and (prB (((.int 0 p.o.i) : SY) = (.int 0 p.o.i))) (Bool.and (prB (((.int 0 p.o.at_) : SY) = (.int 0 p.o.at_))) (Bool.and (prB (((.int 0 p.o.mode) : SY) = (.int 0 p.o.mode))) (Bool.and (prB (((.int 3 p.o.mask) : SY) = (.int 3 p.o.mask))) (Bool.and (prB (((.int 1 p.o.grp) : SY) = (.int 1 p.o.grp))) (Bool.and (prB (((.imm p.o.hp 5 PtR p.o.ps encP) : SY) = (.imm p.o.hp 5 PtR p.o.ps encP))) (true))))))))) (iP (p.o.x = p.o.x) (iP (p.o.y = p.o.y) (iP (p.o.i = (0 : Int)) (iP (p.o.at_ = (0 : Int)) (iP (p.o.mode = (0 : Int)) (iP (p.o.mask = (0 : Int)) (iP (p.o.grp = (0 : Int)) (exB fun p12 : A_equalPn => mP (([.sy (.imm p.o.hp 5 PtR p.o.ps encP), .nilS], .leaf, 0) = I_equalPn p12) (allB fun r11 : R_equalPn => iP (po_equalPn p12 r11) (iP (¬ r11.q) z0 (iP ((0 : Int) ≤ p.o.x) (iP (¬ (p.o.x ≤ (1099511627776 : Int))) z0 (iP ((0 : Int) ≤ p.o.y) (iP (¬ (p.o.y ≤ (1099511627776 : Int))) z0 z1) z0)) z0)) true)) z0) z0) z0) z0) z0) z0) z0)) (iP (p.o.kind = 2) (must (Bool.and (prB (((.int 0 p.o.x) : SY) = (.int 0 p.o.x))) (Bool.and (prB (((.int 0 p.o.y) : SY) = (.int 0 p.o.y))) (Bool.and (prB (((.int 0 p.o.i) : SY) = (.int 0 p.o.i))) (Bool.and (prB (((.int 0 p.o.at_) : SY) = (.int 0 p.o.at_))) (Bool.and (prB (((.int 0 p.o.mode) : SY) = (.int 0 p.o.mode))) (Bool.and (prB (((.int 3 p.o.mask) : SY) = (.int 3 p.o.mask))) (Bool.and (prB (((.int 1 p.o.grp) : SY) = (.int 1 p.o.grp))) (Bool.and (prB (((.imm p.o.hp 5 PtR p.o.ps encP) : SY) = (.imm p.o.hp 5 PtR p.o.ps encP))) (true))))))))) (iP (p.o.x = (0 : Int)) (iP (p.o.y = (0 : Int)) (iP (p.o.i = p.o.i) (iP (p.o.at_ = (0 : Int)) (iP (p.o.mode = (0 : Int)) (iP (p.o.mask = (0 : Int)) (iP (p.o.grp = (0 : Int)) (exB fun p11 : A_equalPn => mP (([.sy (.imm p.o.hp 5 PtR p.o.ps encP), .nilS], .leaf, 0) = I_equalPn p11) (allB fun r10 : R_equalPn => iP (po_equalPn p11 r10) (iP (¬ r10.q) z0 (iP ((0 : Int) ≤ p.o.i) (iP (¬ (p.o.i ≤ (1099511627776 : Int))) z0 z1) z0)) true)) z0) z0) z0) z0) z0) z0) z0)) (iP (p.o.kind = 3) (must (Bool.and (prB (((.int 0 p.o.x) : SY) = (.int 0 p.o.x))) (Bool.and (prB (((.int 0 p.o.y) : SY) = (.int 0 p.o.y))) (Bool.and (prB (((.int 0 p.o.i) : SY) = (.int 0 p.o.i))) (Bool.and (prB (((.int 0 p.o.at_) : SY) = (.int 0 p.o.at_))) (Bool.and (prB (((.int 0 p.o.mode) : SY) = (.int 0 p.o.mode))) (Bool.and (prB (((.int 3 p.o.mask) : SY) = (.int 3 p.o.mask))) (Bool.and (prB (((.int 1 p.o.grp) : SY) = (.int 1 p.o.grp))) (Bool.and (prB (((.imm p.o.hp 5 PtR p.o.ps encP) : SY) = (.imm p.o.hp 5 PtR p.o.ps encP))) (true))))))))) (iP (p.o.x = (0 : Int)) (iP (p.o.y = (0 : Int)) (iP (p.o.i = p.o.i) (iP (p.o.at_ = (0 : Int)) (iP (p.o.mode = (0 : Int)) (iP (p.o.mask = (0 : Int)) (iP (p.o.grp = (0 : Int)) (exB fun p10 : A_equalPn => mP (([.sy (.imm p.o.hp 5 PtR p.o.ps encP), .nilS], .leaf, 0) = I_equalPn p10) (allB fun r9 : R_equalPn => iP (po_equalPn p10 r9) (iP (¬ r9.q) z0 (iP ((0 : Int) ≤ p.o.i) (iP (¬ (p.o.i ≤ (1099511627776 : Int))) z0 z1) z0)) true)) z0) z0) z0) z0) z0) z0) z0)) (iP (p.o.kind = 4) (must (Bool.and (prB (((.int 0 p.o.x) : SY) = (.int 0 p.o.x))) (Bool.and (prB (((.int 0 p.o.y) : SY) = (.int 0 p.o.y))) (Bool.and (prB (((.int 0 p.o.i) : SY) = (.int 0 p.o.i))) (Bool.and (prB (((.int 0 p.o.at_) : SY) = (.int 0 p.o.at_))) (Bool.and (prB (((.int 0 p.o.mode) : SY) = (.int 0 p.o.mode))) (Bool.and (prB (((.int 3 p.o.mask) : SY) = (.int 3 p.o.mask))) (Bool.and (prB (((.int 1 p.o.grp) : SY) = (.int 1 p.o.grp))) (Bool.and (prB (((.imm p.o.hp 5 PtR p.o.ps encP) : SY) = (.imm p.o.hp 5 PtR p.o.ps encP))) (true))))))))) (iP (p.o.x = (0 : Int)) (iP (p.o.y = (0 : Int)) (iP (p.o.i = p.o.i) (iP (p.o.at_ = (0 : Int)) (iP (p.o.mode = (0 : Int)) (iP (p.o.mask = (0 : Int)) (iP (p.o.grp = (0 : Int)) (exB fun p9 : A_equalPn => mP (([.sy (.imm p.o.hp 5 PtR p.o.ps encP), .nilS], .leaf, 0) = I_equalPn p9) (allB fun r8 : R_equalPn => iP (po_equalPn p9 r8) (iP (¬ r8.q) z0 (iP ((0 : Int) ≤ p.o.i) (iP (¬ (p.o.i ≤ (1099511627776 : Int))) z0 z1) z0)) true)) z0) z0) z0) z0) z0) z0) z0)) (iP (p.o.kind = 5) (must (Bool.and (prB (((.int 0 p.o.x) : SY) = (.int 0 p.o.x))) (Bool.and (prB (((.int 0 p.o.y) : SY) = (.int 0 p.o.y))) (Bool.and (prB (((.int 0 p.o.i) : SY) = (.int 0 p.o.i))) (Bool.and (prB (((.int 0 p.o.at_) : SY) = (.int 0 p.o.at_))) (Bool.and (prB (((.int 0 p.o.mode) : SY) = (.int 0 p.o.mode))) (Bool.and (prB (((.int 3 p.o.mask) : SY) = (.int 3 p.o.mask))) (Bool.and (prB (((.int 1 p.o.grp) : SY) = (.int 1 p.o.grp))) (Bool.and (prB (((.imm p.o.hp 5 PtR p.o.ps encP) : SY) = (.imm p.o.hp 5 PtR p.o.ps encP))) (true))))))))) (iP (p.o.x = (0 : Int)) (iP (p.o.y = (0 : Int)) (iP (p.o.i = p.o.i) (iP (p.o.at_ = p.o.at_) (iP (p.o.mode = (0 : Int)) (iP (p.o.mask = p.o.mask) (iP (p.o.grp = (0 : Int)) (exB fun p8 : A_equalPn => mP (([.sy (.imm p.o.hp 5 PtR p.o.ps encP), .nilS], .leaf, 0) = I_equalPn p8) (allB fun r7 : R_equalPn => iP (po_equalPn p8 r7) (iP (¬ r7.q) z0 (iP ((0 : Int) ≤ p.o.i) (iP (¬ (p.o.i ≤ (1099511627776 : Int))) z0 (iP ((0 : Int) ≤ p.o.at_) (iP (¬ (p.o.at_ ≤ (1099511627776 : Int))) z0 z1) z0)) z0)) true)) z0) z0) z0) z0) z0) z0) z0)) (iP (p.o.kind = 6) (must (Bool.and (prB (((.int 0 p.o.x) : SY) = (.int 0 p.o.x))) (Bool.and (prB (((.int 0 p.o.y) : SY) = (.int 0 p.o.y))) (Bool.and (prB (((.int 0 p.o.i) : SY) = (.int 0 p.o.i))) (Bool.and (prB (((.int 0 p.o.at_) : SY) = (.int 0 p.o.at_))) (Bool.and (prB (((.int 0 p.o.mode) : SY) = (.int 0 p.o.mode))) (Bool.and (prB (((.int 3 p.o.mask) : SY) = (.int 3 p.o.mask))) (Bool.and (prB (((.int 1 p.o.grp) : SY) = (.int 1 p.o.grp))) (Bool.and (prB (((.imm p.o.hp 5 PtR p.o.ps encP) : SY) = (.imm p.o.hp 5 PtR p.o.ps encP))) (true))))))))) (iP (p.o.x = p.o.x) (iP (p.o.y = (0 : Int)) (iP (p.o.i = (0 : Int)) (iP (p.o.at_ = (0 : Int)) (iP (p.o.mode = (0 : Int)) (iP (p.o.mask = (0 : Int)) (iP (p.o.grp = (0 : Int)) (exB fun p7 : A_equalPn => mP (([.sy (.imm p.o.hp 5 PtR p.o.ps encP), .nilS], .leaf, 0) = I_equalPn p7) (allB fun r6 : R_equalPn => iP (po_equalPn p7 r6) (iP (¬ r6.q) z0 (iP ((0 : Int) ≤ p.o.x) (iP (¬ (p.o.x ≤ (1099511627776 : Int))) z0 z1) z0)) true)) z0) z0) z0) z0) z0) z0) z0)) (iP (p.o.kind = 7) (must (Bool.and (prB (((.int 0 p.o.x) : SY) = (.int 0 p.o.x))) (Bool.and (prB (((.int 0 p.o.y) : SY) = (.int 0 p.o.y))) (Bool.and (prB (((.int 0 p.o.i) : SY) = (.int 0 p.o.i))) (Bool.and (prB (((.int 0 p.o.at_) : SY) = (.int 0 p.o.at_))) (Bool.and (prB (((.int 0 p.o.mode) : SY) = (.int 0 p.o.mode))) (Bool.and (prB (((.int 3 p.o.mask) : SY) = (.int 3 p.o.mask))) (Bool.and (prB (((.int 1 p.o.grp) : SY) = (.int 1 p.o.grp))) (Bool.and (prB (((.imm p.o.hp 5 PtR p.o.ps encP) : SY) = (.imm p.o.hp 5 PtR p.o.ps encP))) (true))))))))) (iP (p.o.x = p.o.x) (iP (p.o.y = p.o.y) (iP (p.o.i = (0 : Int)) (iP (p.o.at_ = (0 : Int)) (iP (p.o.mode = (0 : Int)) (iP (p.o.mask = (0 : Int)) (iP (p.o.grp = (0 : Int)) (exB fun p6 : A_equalPn => mP (([.sy (.imm p.o.hp 5 PtR p.o.ps encP), .nilS], .leaf, 0) = I_equalPn p6) (allB fun r5 : R_equalPn => iP (po_equalPn p6 r5) (iP (¬ r5.q) z0 (iP ((0 : Int) ≤ p.o.x) (iP (¬ (p.o.x ≤ (1099511627776 : Int))) z0 (iP ((0 : Int) ≤ p.o.y) (iP (¬ (p.o.y ≤ (1099511627776 : Int))) z0 z1) z0)) z0)) true)) z0) z0) z0) z0) z0) z0) z0)) (iP (p.o.kind = 8) (must (Bool.and (prB (((.int 0 p.o.x) : SY) = (.int 0 p.o.x))) (Bool.and (prB (((.int 0 p.o.y) : SY) = (.int 0 p.o.y))) (Bool.and (prB (((.int 0 p.o.i) : SY) = (.int 0 p.o.i))) (Bool.and (prB (((.int 0 p.o.at_) : SY) = (.int 0 p.o.at_))) (Bool.and (prB (((.int 0 p.o.mode) : SY) = (.int 0 p.o.mode))) (Bool.and (prB (((.int 3 p.o.mask) : SY) = (.int 3 p.o.mask))) (Bool.and (prB (((.int 1 p.o.grp) : SY) = (.int 1 p.o.grp))) (Bool.and (prB (((.imm p.o.hp 5 PtR p.o.ps encP) : SY) = (.imm p.o.hp 5 PtR p.o.ps encP))) (true))))))))) (iP (p.o.x = p.o.x) (iP (p.o.y = (0 : Int)) (iP (p.o.i = (0 : Int)) (iP (p.o.at_ = (0 : Int)) (iP (p.o.mode = (0 : Int)) (iP (p.o.mask = (0 : Int)) (iP (p.o.grp = (0 : Int)) (exB fun p5 : A_equalPn => mP (([.sy (.imm p.o.hp 5 PtR p.o.ps encP), .nilS], .leaf, 0) = I_equalPn p5) (allB fun r4 : R_equalPn => iP (po_equalPn p5 r4) (iP (¬ r4.q) z0 (iP ((0 : Int) ≤ p.o.x) (iP (¬ (p.o.x ≤ (1099511627776 : Int))) z0 z1) z0)) true)) z0) z0) z0) z0) z0) z0) z0)) (iP (p.o.kind = 9) (must (Bool.and (prB (((.int 0 p.o.x) : SY) = (.int 0 p.o.x))) (Bool.and (prB (((.int 0 p.o.y) : SY) = (.int 0 p.o.y))) (Bool.and (prB (((.int 0 p.o.i) : SY) = (.int 0 p.o.i))) (Bool.and (prB (((.int 0 p.o.at_) : SY) = (.int 0 p.o.at_))) (Bool.and (prB (((.int 0 p.o.mode) : SY) = (.int 0 p.o.mode))) (Bool.and (prB (((.int 3 p.o.mask) : SY) = (.int 3 p.o.mask))) (Bool.and (prB (((.int 1 p.o.grp) : SY) = (.int 1 p.o.grp))) (Bool.and (prB (((.imm p.o.hp 5 PtR p.o.ps encP) : SY) = (.imm p.o.hp 5 PtR p.o.ps encP))) (true))))))))) (iP (p.o.x = p.o.x) (iP (p.o.y = (0 : Int)) (iP (p.o.i = (0 : Int)) (iP (p.o.at_ = (0 : Int)) (iP (p.o.mode = (0 : Int)) (iP (p.o.mask = (0 : Int)) (iP (p.o.grp = (0 : Int)) (exB fun p4 : A_equalPn => mP (([.sy (.imm p.o.hp 5 PtR p.o.ps encP), .nilS], .leaf, 0) = I_equalPn p4) (allB fun r3 : R_equalPn => iP (po_equalPn p4 r3) (iP (¬ r3.q) z0 (iP ((0 : Int) ≤ p.o.x) (iP (¬ (p.o.x ≤ (1099511627776 : Int))) z0 z1) z0)) true)) z0) z0) z0) z0) z0) z0) z0)) (iP (p.o.kind = 10) (must (Bool.and (prB (((.int 0 p.o.x) : SY) = (.int 0 p.o.x))) (Bool.and (prB (((.int 0 p.o.y) : SY) = (.int 0 p.o.y))) (Bool.and (prB (((.int 0 p.o.i) : SY) = (.int 0 p.o.i))) (Bool.and (prB (((.int 0 p.o.at_) : SY) = (.int 0 p.o.at_))) (Bool.and (prB (((.int 0 p.o.mode) : SY) = (.int 0 p.o.mode))) (Bool.and (prB (((.int 3 p.o.mask) : SY) = (.int 3 p.o.mask))) (Bool.and (prB (((.int 1 p.o.grp) : SY) = (.int 1 p.o.grp))) (Bool.and (prB (((.imm p.o.hp 5 PtR p.o.ps encP) : SY) = (.imm p.o.hp 5 PtR p.o.ps encP))) (true))))))))) (iP (p.o.x = p.o.x) (iP (p.o.y = (0 : Int)) (iP (p.o.i = (0 : Int)) (iP (p.o.at_ = (0 : Int)) (iP (p.o.mode = (0 : Int)) (iP (p.o.mask = (0 : Int)) (iP (p.o.grp = (0 : Int)) (exB fun p3 : A_equalPn => mP (([.sy (.imm p.o.hp 5 PtR p.o.ps encP), .nilS], .leaf, 0) = I_equalPn p3) (allB fun r2 : R_equalPn => iP (po_equalPn p3 r2) (iP (¬ r2.q) z0 (iP ((0 : Int) ≤ p.o.x) (iP (¬ (p.o.x ≤ (1099511627776 : Int))) z0 z1) z0)) true)) z0) z0) z0) z0) z0) z0) z0)) (iP (p.o.kind = 11) (must (Bool.and (prB (((.int 0 p.o.x) : SY) = (.int 0 p.o.x))) (Bool.and (prB (((.int 0 p.o.y) : SY) = (.int 0 p.o.y))) (Bool.and (prB (((.int 0 p.o.i) : SY) = (.int 0 p.o.i))) (Bool.and (prB (((.int 0 p.o.at_) : SY) = (.int 0 p.o.at_))) (Bool.and (prB (((.int 0 p.o.mode) : SY) = (.int 0 p.o.mode))) (Bool.and (prB (((.int 3 p.o.mask) : SY) = (.int 3 p.o.mask))) (Bool.and (prB (((.int 1 p.o.grp) : SY) = (.int 1 p.o.grp))) (Bool.and (prB (((.imm p.o.hp 5 PtR p.o.ps encP) : SY) = (.imm p.o.hp 5 PtR p.o.ps encP))) (true))))))))) (iP (p.o.x = p.o.x) (iP (p.o.y = (0 : Int)) (iP (p.o.i = (0 : Int)) (iP (p.o.at_ = (0 : Int)) (iP (p.o.mode = (0 : Int)) (iP (p.o.mask = (0 : Int)) (iP (p.o.grp = (0 : Int)) (exB fun p2 : A_equalPn => mP (([.sy (.imm p.o.hp 5 PtR p.o.ps encP), .nilS], .leaf, 0) = I_equalPn p2) (allB fun r1 : R_equalPn => iP (po_equalPn p2 r1) (iP (¬ r1.q) z0 (iP ((0 : Int) ≤ p.o.x) (iP (¬ (p.o.x ≤ (1099511627776 : Int))) z0 z1) z0)) true)) z0) z0) z0) z0) z0) z0) z0)) (exB fun p1 : A_wordOut => mP (([.sy (.int 0 p.o.kind)], .leaf, 0) = I_wordOut p1) (mP (pre_wordOut p1) z0))))))))))))))) (by kernel_rfl) ?_
  dsimp only [pre_right] at hpre
  refine iI (fun hc1 => ?_) (fun hc1 => ?_)
  refine must_mk (by simp [prB]) ?_
  refine iI (fun hc2 => ?_) (fun hc2 => ?_)
  refine iI (fun hc3 => ?_) (fun hc3 => ?_)
  refine iI (fun hc4 => ?_) (fun hc4 => ?_)
  refine iI (fun hc5 => ?_) (fun hc5 => ?_)
  refine iI (fun hc6 => ?_) (fun hc6 => ?_)
  refine iI (fun hc7 => ?_) (fun hc7 => ?_)
  refine iI (fun hc8 => ?_) (fun hc8 => ?_)
  refine callPR (⟨p.o.hp, p.o.ps, p.o.hp, p.o.ps⟩ : A_equalP) rfl (by (try dsimp only [pre_equalP]) ; omega) fun r12 hi9 => ?_
  dsimp only [po_equalP] at hi9
  refine iI (fun hc10 => ?_) (fun hc10 => ?_)
  exact fin_right hK ⟨false = true⟩
  refine iI (fun hc11 => ?_) (fun hc11 => ?_)
  refine iI (fun hc12 => ?_) (fun hc12 => ?_)
  exact fin_right hK ⟨false = true⟩
  refine iI (fun hc13 => ?_) (fun hc13 => ?_)
  refine iI (fun hc14 => ?_) (fun hc14 => ?_)
  exact fin_right hK ⟨false = true⟩
  refine iI (fun hc15 => ?_) (fun hc15 => ?_)
  exact fin_right hK ⟨false = true⟩
  refine iI (fun hc16 => ?_) (fun hc16 => ?_)
  exact fin_right hK ⟨false = true⟩
  refine callPR (⟨p.o.hp, p.o.ps⟩ : A_idx72) rfl (by (try dsimp only [pre_idx72]) ; omega) fun r13 hi17 => ?_
  dsimp only [po_idx72] at hi17
  refine iI (fun hc18 => ?_) (fun hc18 => ?_)
  refine mI (by first | omega | (constructor <;> omega) | (have e9 := (by assumption : _ ↔ ¬ ∀ x ∈ _, partR x) ; omega)) ?_
  refine allB_mk (fun x1 => ?_)
  refine iI (fun hi19 => ?_) (fun _ => rfl)
  refine iI (fun hc20 => ?_) (fun hc20 => ?_)
  refine callPR (⟨p.o.hp, p.o.ps⟩ : A_idx56) rfl (by (try dsimp only [pre_idx56]) ; omega) fun r14 hi21 => ?_
  dsimp only [po_idx56] at hi21
  exact fin_right hK ⟨¬ ((0 : Int) ≤ r14.z)⟩
  exact fin_right hK ⟨false = true⟩
  exact fin_right hK ⟨false = true⟩
  exact fin_right hK ⟨false = true⟩
  exact fin_right hK ⟨false = true⟩
  exact fin_right hK ⟨false = true⟩
  exact fin_right hK ⟨false = true⟩
  exact fin_right hK ⟨false = true⟩
  exact fin_right hK ⟨false = true⟩
  exact fin_right hK ⟨false = true⟩
  exact fin_right hK ⟨false = true⟩
  exact fin_right hK ⟨false = true⟩
  refine iI (fun hc22 => ?_) (fun hc22 => ?_)
  refine must_mk (by simp [prB]) ?_
  refine iI (fun hc23 => ?_) (fun hc23 => ?_)
  refine iI (fun hc24 => ?_) (fun hc24 => ?_)
  refine iI (fun hc25 => ?_) (fun hc25 => ?_)
  refine iI (fun hc26 => ?_) (fun hc26 => ?_)
  refine iI (fun hc27 => ?_) (fun hc27 => ?_)
  refine iI (fun hc28 => ?_) (fun hc28 => ?_)
  refine iI (fun hc29 => ?_) (fun hc29 => ?_)
  refine callR (⟨p.o.hp, p.o.ps⟩ : A_equalPn) rfl fun r11 hi30 => ?_
  dsimp only [po_equalPn] at hi30
  refine iI (fun hc31 => ?_) (fun hc31 => ?_)
  exact fin_right hK ⟨false = true⟩
  refine iI (fun hc32 => ?_) (fun hc32 => ?_)
  refine iI (fun hc33 => ?_) (fun hc33 => ?_)
  exact fin_right hK ⟨false = true⟩
  refine iI (fun hc34 => ?_) (fun hc34 => ?_)
  refine iI (fun hc35 => ?_) (fun hc35 => ?_)
  exact fin_right hK ⟨false = true⟩
  exact fin_right hK ⟨true = true⟩
  exact fin_right hK ⟨false = true⟩
  exact fin_right hK ⟨false = true⟩
  exact fin_right hK ⟨false = true⟩
  exact fin_right hK ⟨false = true⟩
  exact fin_right hK ⟨false = true⟩
  exact fin_right hK ⟨false = true⟩
  exact fin_right hK ⟨false = true⟩
  exact fin_right hK ⟨false = true⟩
  exact fin_right hK ⟨false = true⟩
  refine iI (fun hc36 => ?_) (fun hc36 => ?_)
  refine must_mk (by simp [prB]) ?_
  refine iI (fun hc37 => ?_) (fun hc37 => ?_)
  refine iI (fun hc38 => ?_) (fun hc38 => ?_)
  refine iI (fun hc39 => ?_) (fun hc39 => ?_)
  refine iI (fun hc40 => ?_) (fun hc40 => ?_)
  refine iI (fun hc41 => ?_) (fun hc41 => ?_)
  refine iI (fun hc42 => ?_) (fun hc42 => ?_)
  refine iI (fun hc43 => ?_) (fun hc43 => ?_)
  refine callR (⟨p.o.hp, p.o.ps⟩ : A_equalPn) rfl fun r10 hi44 => ?_
  dsimp only [po_equalPn] at hi44
  refine iI (fun hc45 => ?_) (fun hc45 => ?_)
  exact fin_right hK ⟨false = true⟩
  refine iI (fun hc46 => ?_) (fun hc46 => ?_)
  refine iI (fun hc47 => ?_) (fun hc47 => ?_)
  exact fin_right hK ⟨false = true⟩
  exact fin_right hK ⟨true = true⟩
  exact fin_right hK ⟨false = true⟩
  exact fin_right hK ⟨false = true⟩
  exact fin_right hK ⟨false = true⟩
  exact fin_right hK ⟨false = true⟩
  exact fin_right hK ⟨false = true⟩
  exact fin_right hK ⟨false = true⟩
  exact fin_right hK ⟨false = true⟩
  exact fin_right hK ⟨false = true⟩
  refine iI (fun hc48 => ?_) (fun hc48 => ?_)
  refine must_mk (by simp [prB]) ?_
  refine iI (fun hc49 => ?_) (fun hc49 => ?_)
  refine iI (fun hc50 => ?_) (fun hc50 => ?_)
  refine iI (fun hc51 => ?_) (fun hc51 => ?_)
  refine iI (fun hc52 => ?_) (fun hc52 => ?_)
  refine iI (fun hc53 => ?_) (fun hc53 => ?_)
  refine iI (fun hc54 => ?_) (fun hc54 => ?_)
  refine iI (fun hc55 => ?_) (fun hc55 => ?_)
  refine callR (⟨p.o.hp, p.o.ps⟩ : A_equalPn) rfl fun r9 hi56 => ?_
  dsimp only [po_equalPn] at hi56
  refine iI (fun hc57 => ?_) (fun hc57 => ?_)
  exact fin_right hK ⟨false = true⟩
  refine iI (fun hc58 => ?_) (fun hc58 => ?_)
  refine iI (fun hc59 => ?_) (fun hc59 => ?_)
  exact fin_right hK ⟨false = true⟩
  exact fin_right hK ⟨true = true⟩
  exact fin_right hK ⟨false = true⟩
  exact fin_right hK ⟨false = true⟩
  exact fin_right hK ⟨false = true⟩
  exact fin_right hK ⟨false = true⟩
  exact fin_right hK ⟨false = true⟩
  exact fin_right hK ⟨false = true⟩
  exact fin_right hK ⟨false = true⟩
  exact fin_right hK ⟨false = true⟩
  refine iI (fun hc60 => ?_) (fun hc60 => ?_)
  refine must_mk (by simp [prB]) ?_
  refine iI (fun hc61 => ?_) (fun hc61 => ?_)
  refine iI (fun hc62 => ?_) (fun hc62 => ?_)
  refine iI (fun hc63 => ?_) (fun hc63 => ?_)
  refine iI (fun hc64 => ?_) (fun hc64 => ?_)
  refine iI (fun hc65 => ?_) (fun hc65 => ?_)
  refine iI (fun hc66 => ?_) (fun hc66 => ?_)
  refine iI (fun hc67 => ?_) (fun hc67 => ?_)
  refine callR (⟨p.o.hp, p.o.ps⟩ : A_equalPn) rfl fun r8 hi68 => ?_
  dsimp only [po_equalPn] at hi68
  refine iI (fun hc69 => ?_) (fun hc69 => ?_)
  exact fin_right hK ⟨false = true⟩
  refine iI (fun hc70 => ?_) (fun hc70 => ?_)
  refine iI (fun hc71 => ?_) (fun hc71 => ?_)
  exact fin_right hK ⟨false = true⟩
  exact fin_right hK ⟨true = true⟩
  exact fin_right hK ⟨false = true⟩
  exact fin_right hK ⟨false = true⟩
  exact fin_right hK ⟨false = true⟩
  exact fin_right hK ⟨false = true⟩
  exact fin_right hK ⟨false = true⟩
  exact fin_right hK ⟨false = true⟩
  exact fin_right hK ⟨false = true⟩
  exact fin_right hK ⟨false = true⟩
  refine iI (fun hc72 => ?_) (fun hc72 => ?_)
  refine must_mk (by simp [prB]) ?_
  refine iI (fun hc73 => ?_) (fun hc73 => ?_)
  refine iI (fun hc74 => ?_) (fun hc74 => ?_)
  refine iI (fun hc75 => ?_) (fun hc75 => ?_)
  refine iI (fun hc76 => ?_) (fun hc76 => ?_)
  refine iI (fun hc77 => ?_) (fun hc77 => ?_)
  refine iI (fun hc78 => ?_) (fun hc78 => ?_)
  refine iI (fun hc79 => ?_) (fun hc79 => ?_)
  refine callR (⟨p.o.hp, p.o.ps⟩ : A_equalPn) rfl fun r7 hi80 => ?_
  dsimp only [po_equalPn] at hi80
  refine iI (fun hc81 => ?_) (fun hc81 => ?_)
  exact fin_right hK ⟨false = true⟩
  refine iI (fun hc82 => ?_) (fun hc82 => ?_)
  refine iI (fun hc83 => ?_) (fun hc83 => ?_)
  exact fin_right hK ⟨false = true⟩
  refine iI (fun hc84 => ?_) (fun hc84 => ?_)
  refine iI (fun hc85 => ?_) (fun hc85 => ?_)
  exact fin_right hK ⟨false = true⟩
  exact fin_right hK ⟨true = true⟩
  exact fin_right hK ⟨false = true⟩
  exact fin_right hK ⟨false = true⟩
  exact fin_right hK ⟨false = true⟩
  exact fin_right hK ⟨false = true⟩
  exact fin_right hK ⟨false = true⟩
  exact fin_right hK ⟨false = true⟩
  exact fin_right hK ⟨false = true⟩
  exact fin_right hK ⟨false = true⟩
  exact fin_right hK ⟨false = true⟩
  refine iI (fun hc86 => ?_) (fun hc86 => ?_)
  refine must_mk (by simp [prB]) ?_
  refine iI (fun hc87 => ?_) (fun hc87 => ?_)
  refine iI (fun hc88 => ?_) (fun hc88 => ?_)
  refine iI (fun hc89 => ?_) (fun hc89 => ?_)
  refine iI (fun hc90 => ?_) (fun hc90 => ?_)
  refine iI (fun hc91 => ?_) (fun hc91 => ?_)
  refine iI (fun hc92 => ?_) (fun hc92 => ?_)
  refine iI (fun hc93 => ?_) (fun hc93 => ?_)
  refine callR (⟨p.o.hp, p.o.ps⟩ : A_equalPn) rfl fun r6 hi94 => ?_
  dsimp only [po_equalPn] at hi94
  refine iI (fun hc95 => ?_) (fun hc95 => ?_)
  exact fin_right hK ⟨false = true⟩
  refine iI (fun hc96 => ?_) (fun hc96 => ?_)
  refine iI (fun hc97 => ?_) (fun hc97 => ?_)
  exact fin_right hK ⟨false = true⟩
  exact fin_right hK ⟨true = true⟩
  exact fin_right hK ⟨false = true⟩
  exact fin_right hK ⟨false = true⟩
  exact fin_right hK ⟨false = true⟩
  exact fin_right hK ⟨false = true⟩
  exact fin_right hK ⟨false = true⟩
  exact fin_right hK ⟨false = true⟩
  exact fin_right hK ⟨false = true⟩
  exact fin_right hK ⟨false = true⟩
  refine iI (fun hc98 => ?_) (fun hc98 => ?_)
  refine must_mk (by simp [prB]) ?_
  refine iI (fun hc99 => ?_) (fun hc99 => ?_)
  refine iI (fun hc100 => ?_) (fun hc100 => ?_)
  refine iI (fun hc101 => ?_) (fun hc101 => ?_)
  refine iI (fun hc102 => ?_) (fun hc102 => ?_)
  refine iI (fun hc103 => ?_) (fun hc103 => ?_)
  refine iI (fun hc104 => ?_) (fun hc104 => ?_)
  refine iI (fun hc105 => ?_) (fun hc105 => ?_)
  refine callR (⟨p.o.hp, p.o.ps⟩ : A_equalPn) rfl fun r5 hi106 => ?_
  dsimp only [po_equalPn] at hi106
  refine iI (fun hc107 => ?_) (fun hc107 => ?_)
  exact fin_right hK ⟨false = true⟩
  refine iI (fun hc108 => ?_) (fun hc108 => ?_)
  refine iI (fun hc109 => ?_) (fun hc109 => ?_)
  exact fin_right hK ⟨false = true⟩
  refine iI (fun hc110 => ?_) (fun hc110 => ?_)
  refine iI (fun hc111 => ?_) (fun hc111 => ?_)
  exact fin_right hK ⟨false = true⟩
  exact fin_right hK ⟨true = true⟩
  exact fin_right hK ⟨false = true⟩
  exact fin_right hK ⟨false = true⟩
  exact fin_right hK ⟨false = true⟩
  exact fin_right hK ⟨false = true⟩
  exact fin_right hK ⟨false = true⟩
  exact fin_right hK ⟨false = true⟩
  exact fin_right hK ⟨false = true⟩
  exact fin_right hK ⟨false = true⟩
  exact fin_right hK ⟨false = true⟩
  refine iI (fun hc112 => ?_) (fun hc112 => ?_)
  refine must_mk (by simp [prB]) ?_
  refine iI (fun hc113 => ?_) (fun hc113 => ?_)
  refine iI (fun hc114 => ?_) (fun hc114 => ?_)
  refine iI (fun hc115 => ?_) (fun hc115 => ?_)
  refine iI (fun hc116 => ?_) (fun hc116 => ?_)
  refine iI (fun hc117 => ?_) (fun hc117 => ?_)
  refine iI (fun hc118 => ?_) (fun hc118 => ?_)
  refine iI (fun hc119 => ?_) (fun hc119 => ?_)
  refine callR (⟨p.o.hp, p.o.ps⟩ : A_equalPn) rfl fun r4 hi120 => ?_
  dsimp only [po_equalPn] at hi120
  refine iI (fun hc121 => ?_) (fun hc121 => ?_)
  exact fin_right hK ⟨false = true⟩
  refine iI (fun hc122 => ?_) (fun hc122 => ?_)
  refine iI (fun hc123 => ?_) (fun hc123 => ?_)
  exact fin_right hK ⟨false = true⟩
  exact fin_right hK ⟨true = true⟩
  exact fin_right hK ⟨false = true⟩
  exact fin_right hK ⟨false = true⟩
  exact fin_right hK ⟨false = true⟩
  exact fin_right hK ⟨false = true⟩
  exact fin_right hK ⟨false = true⟩
  exact fin_right hK ⟨false = true⟩
  exact fin_right hK ⟨false = true⟩
  exact fin_right hK ⟨false = true⟩
  refine iI (fun hc124 => ?_) (fun hc124 => ?_)
  refine must_mk (by simp [prB]) ?_
  refine iI (fun hc125 => ?_) (fun hc125 => ?_)
  refine iI (fun hc126 => ?_) (fun hc126 => ?_)
  refine iI (fun hc127 => ?_) (fun hc127 => ?_)
  refine iI (fun hc128 => ?_) (fun hc128 => ?_)
  refine iI (fun hc129 => ?_) (fun hc129 => ?_)
  refine iI (fun hc130 => ?_) (fun hc130 => ?_)
  refine iI (fun hc131 => ?_) (fun hc131 => ?_)
  refine callR (⟨p.o.hp, p.o.ps⟩ : A_equalPn) rfl fun r3 hi132 => ?_
  dsimp only [po_equalPn] at hi132
  refine iI (fun hc133 => ?_) (fun hc133 => ?_)
  exact fin_right hK ⟨false = true⟩
  refine iI (fun hc134 => ?_) (fun hc134 => ?_)
  refine iI (fun hc135 => ?_) (fun hc135 => ?_)
  exact fin_right hK ⟨false = true⟩
  exact fin_right hK ⟨true = true⟩
  exact fin_right hK ⟨false = true⟩
  exact fin_right hK ⟨false = true⟩
  exact fin_right hK ⟨false = true⟩
  exact fin_right hK ⟨false = true⟩
  exact fin_right hK ⟨false = true⟩
  exact fin_right hK ⟨false = true⟩
  exact fin_right hK ⟨false = true⟩
  exact fin_right hK ⟨false = true⟩
  refine iI (fun hc136 => ?_) (fun hc136 => ?_)
  refine must_mk (by simp [prB]) ?_
  refine iI (fun hc137 => ?_) (fun hc137 => ?_)
  refine iI (fun hc138 => ?_) (fun hc138 => ?_)
  refine iI (fun hc139 => ?_) (fun hc139 => ?_)
  refine iI (fun hc140 => ?_) (fun hc140 => ?_)
  refine iI (fun hc141 => ?_) (fun hc141 => ?_)
  refine iI (fun hc142 => ?_) (fun hc142 => ?_)
  refine iI (fun hc143 => ?_) (fun hc143 => ?_)
  refine callR (⟨p.o.hp, p.o.ps⟩ : A_equalPn) rfl fun r2 hi144 => ?_
  dsimp only [po_equalPn] at hi144
  refine iI (fun hc145 => ?_) (fun hc145 => ?_)
  exact fin_right hK ⟨false = true⟩
  refine iI (fun hc146 => ?_) (fun hc146 => ?_)
  refine iI (fun hc147 => ?_) (fun hc147 => ?_)
  exact fin_right hK ⟨false = true⟩
  exact fin_right hK ⟨true = true⟩
  exact fin_right hK ⟨false = true⟩
  exact fin_right hK ⟨false = true⟩
  exact fin_right hK ⟨false = true⟩
  exact fin_right hK ⟨false = true⟩
  exact fin_right hK ⟨false = true⟩
  exact fin_right hK ⟨false = true⟩
  exact fin_right hK ⟨false = true⟩
  exact fin_right hK ⟨false = true⟩
  refine iI (fun hc148 => ?_) (fun hc148 => ?_)
  refine must_mk (by simp [prB]) ?_
  refine iI (fun hc149 => ?_) (fun hc149 => ?_)
  refine iI (fun hc150 => ?_) (fun hc150 => ?_)
  refine iI (fun hc151 => ?_) (fun hc151 => ?_)
  refine iI (fun hc152 => ?_) (fun hc152 => ?_)
  refine iI (fun hc153 => ?_) (fun hc153 => ?_)
  refine iI (fun hc154 => ?_) (fun hc154 => ?_)
  refine iI (fun hc155 => ?_) (fun hc155 => ?_)
  refine callR (⟨p.o.hp, p.o.ps⟩ : A_equalPn) rfl fun r1 hi156 => ?_
  dsimp only [po_equalPn] at hi156
  refine iI (fun hc157 => ?_) (fun hc157 => ?_)
  exact fin_right hK ⟨false = true⟩
  refine iI (fun hc158 => ?_) (fun hc158 => ?_)
  refine iI (fun hc159 => ?_) (fun hc159 => ?_)
  exact fin_right hK ⟨false = true⟩
  exact fin_right hK ⟨true = true⟩
  exact fin_right hK ⟨false = true⟩
  exact fin_right hK ⟨false = true⟩
  exact fin_right hK ⟨false = true⟩
  exact fin_right hK ⟨false = true⟩
  exact fin_right hK ⟨false = true⟩
  exact fin_right hK ⟨false = true⟩
  exact fin_right hK ⟨false = true⟩
  exact fin_right hK ⟨false = true⟩
  refine callP (⟨p.o.kind⟩ : A_wordOut) rfl (by (try dsimp only [pre_wordOut]) ; omega) ?_
  exact fin_right hK ⟨false = true⟩
noncomputable def nat_right := natC nat_wordsOut 0 (esOf I_right (spP pre_right out_right)) 30 [(0, 15)]
theorem nat_right_ok : NatsOk Tryd.prog nat_right := natC_ok (natE_pl (f := 30) (k := 0) (cfT_ok nat_wordsOut_ok) ft_right_ok (by rfl) (by rfl) vf_right) nat_wordsOut_ok
end Go.Proofs.Tryd