/- Definitions and lemmas of the proof, without a condition of their own. -/
import Derived.Test.YtdangmomddpegaaDoorM3
import Derived.KernelRfl
namespace Go.Proofs.Tryd
open Go Go.RowKit Go.Sy
open Go.Eng hiding allB
set_option maxRecDepth 1000000
set_option linter.unusedVariables false
set_option maxHeartbeats 4000000
def grR (g : GrR) : Prop := (0 ≤ g.f ∧ g.f ≤ 1099511627776) ∧ (0 ≤ g.s ∧ g.s ≤ 1099511627776)
def scR (s : ScR) : Prop := (1 ≤ s.gs.length ∧ s.gs.length ≤ 4) ∧ (∀ g ∈ s.gs, grR g) ∧ (0 ≤ s.clients ∧ s.clients ≤ 1099511627776) ∧ (0 ≤ s.window ∧ s.window ≤ 1099511627776) ∧ (0 ≤ s.deadline ∧ s.deadline ≤ 1099511627776) ∧ (0 ≤ s.pace ∧ s.pace ≤ 1099511627776) ∧ (0 ≤ s.again ∧ s.again ≤ 1099511627776) ∧ (0 ≤ s.bag ∧ s.bag ≤ 1099511627776) ∧ ∀ o ∈ s.os, opR o
def I64r (z : Int) : Prop := -9223372036854775808 ≤ z ∧ z ≤ 9223372036854775807
def rgG (g : GrR) : Prop := I64r g.f ∧ I64r g.s
def rgO (o : OpR) : Prop := (I64r o.kind ∧ I64r o.x ∧ I64r o.y ∧ I64r o.i ∧ I64r o.at_ ∧ I64r o.mode) ∧ (0 ≤ o.mask ∧ o.mask ≤ 4294967295) ∧ (0 ≤ o.grp ∧ o.grp ≤ 255) ∧ ∀ x ∈ o.ps, rgP x
def rgS (s : ScR) : Prop := (∀ g ∈ s.gs, rgG g) ∧ (I64r s.clients ∧ I64r s.window ∧ I64r s.deadline ∧ I64r s.pace ∧ I64r s.again ∧ I64r s.bag) ∧ (0 ≤ s.first ∧ s.first ≤ 18446744073709551615) ∧ ∀ o ∈ s.os, rgO o
def ft_rop : XF := .mk 83 (.one 2) (.aft (.seq (g_ 2 [e_ 0 1 (.box 69 (.t 0)), p_ 1 2 (.mv (.c (.bool false)))]) (.pre [.fixo 0 0 0 12] (.seq (g_ 8 [p_ 0 10 (f_ 0 1), r_ 1 11 (l_ 10), c_ 2 12 49 [.t 11], p_ 3 9 (m_ 12), p_ 4 13 (.ext 0 (.t 9)), p_ 5 14 (.ext 1 (.t 9)), p_ 6 3 (m_ 13), p_ 7 4 (m_ 14)]) (.seq (.seq (g_ 2 [p_ 0 15 (m_ 3), p_ 1 16 (.bin 5 0 (.t 15) (.c (.str [])))]) (.cond (.t 16) (.seq (g_ 1 [p_ 0 2 (.mv (.c (.bool false)))]) .ret) .skip)) (.seq (g_ 5 [p_ 0 17 (f_ 0 1), r_ 1 18 (l_ 17), p_ 2 19 (.bld [.int 0 (.ofNat 0), .int 0 (.ofNat 0), .int 0 (.ofNat 0), .int 0 (.ofNat 0), .int 0 (.ofNat 0), .int 0 (.ofNat 0), .int 3 (.ofNat 0), .int 1 (.ofNat 0), .nilS] [(0, 1)] [.t 18]), e_ 3 5 (.al 69 [.int 0 (.ofNat 0), .int 0 (.ofNat 0), .int 0 (.ofNat 0), .int 0 (.ofNat 0), .int 0 (.ofNat 0), .int 0 (.ofNat 0), .int 3 (.ofNat 0), .int 1 (.ofNat 0), .nilS]), e0_ 4 (.st 9 (.t 5) (.t 19))]) (.seq (.seq (g_ 1 [p_ 0 6 (.mv (i_ 0))]) (.block 2 (.loop [1, 2, 4, 5, 6, 7, 8, 20, 21, 22, 23, 24, 25, 26, 27, 28, 29, 30, 31, 32, 33, 34, 35, 36, 37, 38, 39, 40, 41, 42, 43, 44, 45, 46, 47, 48, 49, 50, 51, 52, 53, 54, 55, 56, 57, 58, 59, 60, 61, 62, 63, 64, 65, 66, 67, 68, 69, 70, 71, 72, 73, 74, 75, 76, 77, 78, 79, 80, 81, 82] (.seq (.seq (g_ 4 [p_ 0 20 (m_ 6), p_ 1 21 (m_ 4), p_ 2 22 (.len 0 (.t 21)), p_ 3 23 (.bin 3 0 (.t 20) (.t 22))]) (.cond (.t 23) .skip (.exit 2))) (.seq (.block 3 (.seq (h_ 6 [r_ 0 26 (.ld true 9 (.t 1)), p_ 1 27 (m_ 4), p_ 2 28 (m_ 6), p_ 3 29 (.six (.t 27) (.t 28)), c_ 4 30 50 [.t 26, .t 29], p_ 5 7 (m_ 30)]) (.seq (.seq (g_ 6 [p_ 0 31 (m_ 7), p_ 1 32 (.bin 3 0 (.t 31) (i_ 0)), p_ 2 33 (m_ 32), pg_ 3 34 33 false (m_ 7), pg_ 4 35 33 false (.bin 3 2 (.t 34) (i_ 1099511627776)), p_ 5 36 (.pick (.t 33) (.c (.bool true)) (.t 35))]) (.cond (.t 36) (.seq (g_ 1 [p_ 0 2 (.mv (.c (.bool false)))]) .ret) .skip)) (h_ 7 [r_ 0 37 (.ld true 9 (.t 5)), p_ 1 38 (m_ 4), p_ 2 39 (m_ 6), p_ 3 40 (.six (.t 38) (.t 39)), p_ 4 41 (m_ 7), c_ 5 42 58 [.t 37, .t 40, .t 41], e0_ 6 (.st 9 (.t 5) (.t 42))])))) (g_ 3 [p_ 0 24 (m_ 6), p_ 1 25 (.bin 0 0 (.t 24) (i_ 1)), p_ 2 6 (m_ 25)])))))) (.seq (.seq (g_ 3 [p_ 0 43 (f_ 0 1), r_ 1 44 (l_ 43), p_ 2 45 (.bin 3 4 (.t 44) (i_ 0))]) (.cond (.t 45) (.seq (.seq (h_ 14 [p_ 0 46 (f_ 8 1), r_ 1 47 (l_ 46), c_ 2 48 59 [.t 47], p_ 3 49 (.un 0 (.t 48)), p_ 4 50 (m_ 49), pg_ 5 51 50 false (f_ 8 1), rg_ 6 52 50 false (l_ 51), pg_ 7 53 50 false (.ixs 5 (.t 52) (i_ 0)), pg_ 8 54 50 false (f_ 0 53), rg_ 9 55 50 false (l_ 54), pg_ 10 56 50 false (f_ 7 1), rg_ 11 57 50 false (l_ 56), pg_ 12 58 50 false (.bin 3 5 (.t 55) (.t 57)), p_ 13 59 (.pick (.t 50) (.c (.bool true)) (.t 58))]) (.cond (.t 59) (.seq (g_ 1 [p_ 0 2 (.mv (.c (.bool false)))]) .ret) .skip)) (.seq (.seq (g_ 1 [p_ 0 8 (.mv (i_ 0))]) (.block 4 (.pre [.can 0 [1, 5, 8], .up 8, .can 0 [1, 5, 8]] (.inv 0 (.aft (.seq (.seq (g_ 5 [p_ 0 60 (m_ 8), p_ 1 61 (f_ 8 1), r_ 2 62 (l_ 61), p_ 3 63 (k_ 62), p_ 4 64 (.bin 3 0 (.t 60) (.t 63))]) (.cond (.t 64) .skip (.exit 4))) (.seq (.block 5 (.seq (g_ 7 [p_ 0 67 (f_ 8 1), r_ 1 68 (l_ 67), p_ 2 69 (m_ 8), p_ 3 70 (.ixs 5 (.t 68) (.t 69)), r_ 4 71 (.ld true 5 (.t 70)), c_ 5 72 60 [.t 71], p_ 6 73 (.un 0 (.t 72))]) (.cond (.t 73) (.seq (g_ 1 [p_ 0 2 (.mv (.c (.bool false)))]) .ret) .skip))) (g_ 3 [p_ 0 65 (m_ 8), p_ 1 66 (.bin 0 0 (.t 65) (i_ 1)), p_ 2 8 (m_ 66)]))) [(0, [.can 0 [1, 5, 8]]), (1, [.can 0 [2]]), (4, [.can 0 [1, 5]])]))))) (.seq (g_ 4 [p_ 0 74 (f_ 7 1), r_ 1 75 (l_ 74), p_ 2 76 (f_ 7 5), e0_ 3 (.st 1 (.t 76) (.t 75))]) (g_ 4 [p_ 0 77 (f_ 8 1), r_ 1 78 (l_ 77), p_ 2 79 (f_ 8 5), e0_ 3 (.st 1 (.t 79) (.t 78))])))) .skip)) (.seq (g_ 4 [r_ 0 80 (.ld true 9 (.t 5)), r_ 1 81 (.ld true 9 (.t 1)), c_ 2 82 36 [.t 80, .t 81], p_ 3 2 (m_ 82)]) .ret)))))))) [(0, [.up 2]), (1, [.up 2])])
theorem ft_rop_ok : chkF Tryd.prog 32 ft_rop = true := by kernel_rfl
structure A_l_rop where
  x : Int
  y : Int
  i : Int
  at_ : Int
  mode : Int
  mask : Int
  grp : Int
  hp : Value
  ps : List PtR
  j : Int
def po_l_rop (p : A_l_rop) : Prop := ∀ x ∈ p.ps, spokenR x
def po_l_rop1 (p : A_l_rop) : Prop := ¬ ∀ x ∈ p.ps, spokenR x
noncomputable def I_l_rop (p : A_l_rop) : IL := ((.cons 8 (.sy (.int 0 p.j)) (.cons 5 (.ptr 1 0) (.cons 1 (.ptr 0 0) .nil))), (.node (.node .leaf (some (.blk false 69 9 [[.int 0 (.ofNat 0), .sy (.int 0 p.x), .int 0 (.ofNat 0), .int 0 (.ofNat 0), .int 0 (.ofNat 0), .sy (.int 0 p.mode), .int 3 (.ofNat 0), .int 1 (.ofNat 0), .nilS]])) .leaf) (some (.blk false 69 9 [[.int 0 (.ofNat 0), .sy (.int 0 p.x), .sy (.int 0 p.y), .sy (.int 0 p.i), .sy (.int 0 p.at_), .sy (.int 0 p.mode), .sy (.int 3 p.mask), .sy (.int 1 p.grp), .sy (.imm p.hp 5 PtR p.ps encP)]])) .leaf), 2)
noncomputable def out_l_rop (p : A_l_rop) (K : KC) : Bool := must (iP (po_l_rop p) (K 4 (.cons 5 (.ptr 1 0) (.cons 1 (.ptr 0 0) .nil)) (.node (.node .leaf (some (.blk false 69 9 [[.int 0 (.ofNat 0), .sy (.int 0 p.x), .int 0 (.ofNat 0), .int 0 (.ofNat 0), .int 0 (.ofNat 0), .sy (.int 0 p.mode), .int 3 (.ofNat 0), .int 1 (.ofNat 0), .nilS]])) .leaf) (some (.blk false 69 9 [[.int 0 (.ofNat 0), .sy (.int 0 p.x), .sy (.int 0 p.y), .sy (.int 0 p.i), .sy (.int 0 p.at_), .sy (.int 0 p.mode), .sy (.int 3 p.mask), .sy (.int 1 p.grp), .sy (.imm p.hp 5 PtR p.ps encP)]])) .leaf) 2) true) (iP (po_l_rop1 p) (K 1 (.cons 2 (.bool false) .nil) .leaf 0) true)
def pre_l_rop (p : A_l_rop) : Prop := p.ps.length ≤ 10 ∧ 0 ≤ p.j ∧ p.j ≤ (p.ps.length : Int) ∧ (∀ x ∈ p.ps, rgP x) ∧ (∀ (j : Nat) y, (j : Int) < p.j → p.ps[j]? = some y → spokenR y)
noncomputable def sp_l_rop (p : A_l_rop) (K : KC) : Bool := must (prB (pre_l_rop p)) (out_l_rop p K)
noncomputable def lp_rop : LpF := fun j S M nx K => (Bool.rec (false) (exB fun p : A_l_rop => must (prB ((S, M, nx) = I_l_rop p)) (sp_l_rop p K)) (Nat.beq j 0))
def mu_l_rop (p : A_l_rop) : Nat := ((p.ps.length : Int) - p.j).toNat
theorem bk_l_rop {p q : A_l_rop} {K : KC} {s : IL} (hm : mu_l_rop q < mu_l_rop p) (hp : pre_l_rop q) (hK : out_l_rop q K = true) (e : s = I_l_rop q) : (exB fun q => mP (s = I_l_rop q ∧ mu_l_rop q < mu_l_rop p) (sp_l_rop q K)) = true := exB_mk q (mustP ⟨e, hm⟩ (mustP hp hK))
def bd_l_rop : XC := (.aft (.seq (.seq (g_ 5 [p_ 0 60 (m_ 8), p_ 1 61 (f_ 8 1), r_ 2 62 (l_ 61), p_ 3 63 (k_ 62), p_ 4 64 (.bin 3 0 (.t 60) (.t 63))]) (.cond (.t 64) .skip (.exit 4))) (.seq (.block 5 (.seq (g_ 7 [p_ 0 67 (f_ 8 1), r_ 1 68 (l_ 67), p_ 2 69 (m_ 8), p_ 3 70 (.ixs 5 (.t 68) (.t 69)), r_ 4 71 (.ld true 5 (.t 70)), c_ 5 72 60 [.t 71], p_ 6 73 (.un 0 (.t 72))]) (.cond (.t 73) (.seq (g_ 1 [p_ 0 2 (.mv (.c (.bool false)))]) .ret) .skip))) (g_ 3 [p_ 0 65 (m_ 8), p_ 1 66 (.bin 0 0 (.t 65) (i_ 1)), p_ 2 8 (m_ 66)]))) [(0, [.can 0 [1, 5, 8]]), (1, [.can 0 [2]]), (4, [.can 0 [1, 5]])])
theorem vb_l_rop (p : A_l_rop) (K : KC) (hpre : pre_l_rop p) (hK : out_l_rop p K = true) : (codeX (cfT nat_right) lp_rop 600 bd_l_rop (I_l_rop p).1 (I_l_rop p).2.1 (I_l_rop p).2.2 (fun e S M nx => Nat.casesOn e (exB fun q : A_l_rop => must (prB ((S, M, nx) = I_l_rop q ∧ mu_l_rop q < mu_l_rop p)) (sp_l_rop q K)) (fun e2 => K (Nat.succ e2) S M nx))) = true := by
  refine Eq.trans (b := (iP (p.j < (p.ps.length : Int)) (mP (0 ≤ p.j ∧ p.j < (p.ps.length : Int)) (allB fun x1 : PtR => iP (p.ps[p.j.toNat]? = some x1) (useC (([.agg [.sy (.int 1 x1.g), .sy (.int 1 x1.k), .sy (.str x1.key), .sy (.str x1.val), .sy (.int 0 x1.n)]], .leaf, 0)) I_rpart pre_rpart po_rpart fun p1 r1 => iP (¬ r1.q) (K 1 (.cons 2 (.bool false) .nil) .leaf 0) (mP (InR 0 (p.j + (1 : Int))) (exB fun q1 : A_l_rop => mP (((.cons 8 (.sy (.int 0 (p.j + (1 : Int)))) (.cons 5 (.ptr 1 0) (.cons 1 (.ptr 0 0) .nil))), (.node (.node .leaf (some (.blk false 69 9 [[.int 0 (.ofNat 0), .sy (.int 0 p.x), .int 0 (.ofNat 0), .int 0 (.ofNat 0), .int 0 (.ofNat 0), .sy (.int 0 p.mode), .int 3 (.ofNat 0), .int 1 (.ofNat 0), .nilS]])) .leaf) (some (.blk false 69 9 [[.int 0 (.ofNat 0), .sy (.int 0 p.x), .sy (.int 0 p.y), .sy (.int 0 p.i), .sy (.int 0 p.at_), .sy (.int 0 p.mode), .sy (.int 3 p.mask), .sy (.int 1 p.grp), .sy (.imm p.hp 5 PtR p.ps encP)]])) .leaf), 2) = I_l_rop q1 ∧ mu_l_rop q1 < mu_l_rop p) (sp_l_rop q1 K)))) true)) (K 4 (.cons 5 (.ptr 1 0) (.cons 1 (.ptr 0 0) .nil)) (.node (.node .leaf (some (.blk false 69 9 [[.int 0 (.ofNat 0), .sy (.int 0 p.x), .int 0 (.ofNat 0), .int 0 (.ofNat 0), .int 0 (.ofNat 0), .sy (.int 0 p.mode), .int 3 (.ofNat 0), .int 1 (.ofNat 0), .nilS]])) .leaf) (some (.blk false 69 9 [[.int 0 (.ofNat 0), .sy (.int 0 p.x), .sy (.int 0 p.y), .sy (.int 0 p.i), .sy (.int 0 p.at_), .sy (.int 0 p.mode), .sy (.int 3 p.mask), .sy (.int 1 p.grp), .sy (.imm p.hp 5 PtR p.ps encP)]])) .leaf) 2))) (by kernel_rfl) ?_
  obtain ⟨hK0, hKr0⟩ := must_ok hK
  have hK1 := hKr0
  dsimp only [pre_l_rop] at hpre
  obtain ⟨g0, g1, g2, g4, g5⟩ := hpre
  refine iI (fun hc1 => ?_) (fun hc1 => ?_)
  refine mI (by first | omega | (constructor <;> omega) | (have e9 := (by assumption : _ ↔ partsR _) ; unfold partsR at e9 ; have e8 := e9.1 (by first | assumption | exact Classical.not_not.1 (by assumption)) ; omega)) ?_
  refine allB_mk (fun x1 => ?_)
  refine iI (fun hi2 => ?_) (fun _ => rfl)
  have hg_x1 := g4 _ (List.mem_of_getElem? (by assumption : p.ps[p.j.toNat]? = some x1))
  refine callPR (⟨x1⟩ : A_rpart) rfl (by (try dsimp only [pre_rpart]) ; assumption) fun r1 hi3 => ?_
  dsimp only [po_rpart] at hi3
  refine iI (fun hc4 => ?_) (fun hc4 => ?_)
  exact ifB_use (show ¬ ∀ x ∈ p.ps, spokenR x from (by exact all_no hi2 (by simp_all))) hK1
  refine mI (by simp only [InR] ; omega) ?_
  exact bk_l_rop (q := ⟨p.x, p.y, p.i, p.at_, p.mode, p.mask, p.grp, p.hp, p.ps, p.j + (1 : Int)⟩) (by dsimp only [mu_l_rop] ; omega) (by dsimp only [pre_l_rop] ; exact ⟨g0, by omega, by omega, g4, all_step g5 (by omega) hi2 (by simp_all)⟩) hK rfl
  exact ifB_use (show ∀ x ∈ p.ps, spokenR x from (by exact all_end g5 (by omega))) hK0
theorem lo_l_rop : LpOk Tryd.prog 83 0 lp_rop true 0 bd_l_rop := by
  exact lp_of (lf := 600) ts_mix (cfT_ok nat_right_ok) (by rfl) I_l_rop mu_l_rop sp_l_rop (fun b j x h => by cases h) (fun S M nx K h => by obtain ⟨p, h⟩ := exB_ok h; exact ⟨p, (mustP_ok h).1, (mustP_ok h).2⟩) (fun p K h => vb_l_rop p K (mustP_ok h).1 (mustP_ok h).2)
structure A_rop where
  o : OpR
structure R_rop where
  q : Prop
def po_rop (p : A_rop) (r : R_rop) : Prop := r.q ↔ opR p.o
noncomputable def I_rop (p : A_rop) : IE := ([.agg [.sy (.int 0 p.o.kind), .sy (.int 0 p.o.x), .sy (.int 0 p.o.y), .sy (.int 0 p.o.i), .sy (.int 0 p.o.at_), .sy (.int 0 p.o.mode), .sy (.int 3 p.o.mask), .sy (.int 1 p.o.grp), .sy (.imm p.o.hp 5 PtR p.o.ps encP)]], .leaf, 0)
noncomputable def out_rop (p : A_rop) (K : KE) : Bool := allB fun r : R_rop => iP (po_rop p r) (K (.sy (.bool r.q)) .leaf 0) true
def pre_rop (p : A_rop) : Prop := p.o.ps.length ≤ 10 ∧ (0 ≤ p.o.mask ∧ p.o.mask ≤ 4294967295) ∧ ∀ x ∈ p.o.ps, rgP x
theorem fin_rop {p : A_rop} {K : KE} (hK : out_rop p K = true) (r : R_rop) (h : po_rop p r := by dsimp only [po_rop] <;> ((first | rw [opR_0 (by assumption)] | rw [opR_1 (by assumption)] | rw [opR_2 (by assumption)] | rw [opR_3 (by assumption)] | rw [opR_4 (by assumption)] | rw [opR_5 (by assumption)] | rw [opR_6 (by assumption)] | rw [opR_7 (by assumption)] | rw [opR_8 (by assumption)] | rw [opR_9 (by assumption)] | rw [opR_10 (by assumption)] | rw [opR_11 (by assumption)] | rw [iff_false_intro (opR_no (by omega))]) ; first | (simp_all ; done) | (simp_all ; omega) | ((try unfold partsR) ; simp_all ; done) | ((try unfold partsR) ; simp_all ; omega) | ((try unfold partsR) ; constructor <;> intro h <;> simp_all <;> omega) | (constructor <;> intro h <;> simp_all <;> omega) | omega)) : K (.sy (.bool r.q)) .leaf 0 = true := ifB_use h (allB_ok hK r)
theorem vf_rop (p : A_rop) (K : KE) (hpre : pre_rop p) (hK : out_rop p K = true) : (funE 0 (cfT nat_right) lp_rop 600 ft_rop (I_rop p).1 (I_rop p).2.1 (I_rop p).2.2 K) = true := by
  refine Eq.trans (b := (let z0 : Bool := (K (.sy (.bool (false = true))) .leaf 0); iP (p.o.kind = 0) (iP (p.o.x < (0 : Int)) z0 (iP ((1099511627776 : Int) < p.o.x) z0 (iP (p.o.mode < (0 : Int)) z0 (iP ((1099511627776 : Int) < p.o.mode) z0 (useC (([.sy (.imm p.o.hp 5 PtR p.o.ps encP)], .leaf, 0)) I_rall pre_rall po_rall fun p13 r12 => iP (¬ r12.q) z0 (mP (0 ≤ (0 : Int) ∧ (0 : Int) < (p.o.ps.length : Int)) (allB fun x1 : PtR => iP (p.o.ps[0]? = some x1) (iP (¬ x1.g = p.o.grp) z0 (exB fun p14 : A_l_rop => mP (((.cons 8 (.sy (.int 0 0)) (.cons 5 (.ptr 1 0) (.cons 1 (.ptr 0 0) .nil))), (.node (.node .leaf (some (.blk false 69 9 [[.int 0 (.ofNat 0), .sy (.int 0 p.o.x), .int 0 (.ofNat 0), .int 0 (.ofNat 0), .int 0 (.ofNat 0), .sy (.int 0 p.o.mode), .int 3 (.ofNat 0), .int 1 (.ofNat 0), .nilS]])) .leaf) (some (.blk false 69 9 [[.int 0 (.ofNat 0), .sy (.int 0 p.o.x), .sy (.int 0 p.o.y), .sy (.int 0 p.o.i), .sy (.int 0 p.o.at_), .sy (.int 0 p.o.mode), .sy (.int 3 p.o.mask), .sy (.int 1 p.o.grp), .sy (.imm p.o.hp 5 PtR p.o.ps encP)]])) .leaf), 2) = I_l_rop p14) (mP (pre_l_rop p14) (must (iP (po_l_rop p14) (iP (p14.x = p14.x) (iP ((0 : Int) = p14.y) (iP ((0 : Int) = p14.i) (iP ((0 : Int) = p14.at_) (iP (p14.mode = p14.mode) (iP ((0 : Int) = p14.mask) (iP (p14.grp = p14.grp) (useC (([.sy (.imm p14.hp 5 PtR p14.ps encP), .sy (.imm p14.hp 5 PtR p14.ps encP)], .leaf, 0)) I_rsame pre_rsame po_rsame fun p15 r13 => K (.sy (.bool r13.q)) .leaf 0) z0) z0) z0) z0) z0) z0) z0) true) (iP (po_l_rop1 p14) z0 true))))) true))))))) (iP (p.o.kind = 1) (iP (p.o.x < (0 : Int)) z0 (iP ((1099511627776 : Int) < p.o.x) z0 (iP (p.o.y < (0 : Int)) z0 (iP ((1099511627776 : Int) < p.o.y) z0 (iP (p.o.x = p.o.x) (iP (p.o.y = p.o.y) (iP ((0 : Int) = p.o.i) (iP ((0 : Int) = p.o.at_) (iP ((0 : Int) = p.o.mode) (iP ((0 : Int) = p.o.mask) (iP ((0 : Int) = p.o.grp) (exB fun p12 : A_rsamen => mP (([.nilS, .sy (.imm p.o.hp 5 PtR p.o.ps encP)], .leaf, 0) = I_rsamen p12) (allB fun r11 : R_rsamen => iP (po_rsamen p12 r11) (K (.sy (.bool r11.q)) .leaf 0) true)) z0) z0) z0) z0) z0) z0) z0))))) (iP (p.o.kind = 2) (iP (p.o.i < (0 : Int)) z0 (iP ((1099511627776 : Int) < p.o.i) z0 (iP ((0 : Int) = p.o.x) (iP ((0 : Int) = p.o.y) (iP (p.o.i = p.o.i) (iP ((0 : Int) = p.o.at_) (iP ((0 : Int) = p.o.mode) (iP ((0 : Int) = p.o.mask) (iP ((0 : Int) = p.o.grp) (exB fun p11 : A_rsamen => mP (([.nilS, .sy (.imm p.o.hp 5 PtR p.o.ps encP)], .leaf, 0) = I_rsamen p11) (allB fun r10 : R_rsamen => iP (po_rsamen p11 r10) (K (.sy (.bool r10.q)) .leaf 0) true)) z0) z0) z0) z0) z0) z0) z0))) (iP (p.o.kind = 3) (iP (p.o.i < (0 : Int)) z0 (iP ((1099511627776 : Int) < p.o.i) z0 (iP ((0 : Int) = p.o.x) (iP ((0 : Int) = p.o.y) (iP (p.o.i = p.o.i) (iP ((0 : Int) = p.o.at_) (iP ((0 : Int) = p.o.mode) (iP ((0 : Int) = p.o.mask) (iP ((0 : Int) = p.o.grp) (exB fun p10 : A_rsamen => mP (([.nilS, .sy (.imm p.o.hp 5 PtR p.o.ps encP)], .leaf, 0) = I_rsamen p10) (allB fun r9 : R_rsamen => iP (po_rsamen p10 r9) (K (.sy (.bool r9.q)) .leaf 0) true)) z0) z0) z0) z0) z0) z0) z0))) (iP (p.o.kind = 4) (iP (p.o.i < (0 : Int)) z0 (iP ((1099511627776 : Int) < p.o.i) z0 (iP ((0 : Int) = p.o.x) (iP ((0 : Int) = p.o.y) (iP (p.o.i = p.o.i) (iP ((0 : Int) = p.o.at_) (iP ((0 : Int) = p.o.mode) (iP ((0 : Int) = p.o.mask) (iP ((0 : Int) = p.o.grp) (exB fun p9 : A_rsamen => mP (([.nilS, .sy (.imm p.o.hp 5 PtR p.o.ps encP)], .leaf, 0) = I_rsamen p9) (allB fun r8 : R_rsamen => iP (po_rsamen p9 r8) (K (.sy (.bool r8.q)) .leaf 0) true)) z0) z0) z0) z0) z0) z0) z0))) (iP (p.o.kind = 5) (iP (p.o.i < (0 : Int)) z0 (iP ((1099511627776 : Int) < p.o.i) z0 (iP (p.o.at_ < (0 : Int)) z0 (iP ((1099511627776 : Int) < p.o.at_) z0 (mP (InR 0 p.o.mask) (iP (p.o.mask < (0 : Int)) z0 (iP ((1099511627776 : Int) < p.o.mask) z0 (mP (InR 3 p.o.mask) (iP ((0 : Int) = p.o.x) (iP ((0 : Int) = p.o.y) (iP (p.o.i = p.o.i) (iP (p.o.at_ = p.o.at_) (iP ((0 : Int) = p.o.mode) (iP (p.o.mask = p.o.mask) (iP ((0 : Int) = p.o.grp) (exB fun p8 : A_rsamen => mP (([.nilS, .sy (.imm p.o.hp 5 PtR p.o.ps encP)], .leaf, 0) = I_rsamen p8) (allB fun r7 : R_rsamen => iP (po_rsamen p8 r7) (K (.sy (.bool r7.q)) .leaf 0) true)) z0) z0) z0) z0) z0) z0) z0))))))))) (iP (p.o.kind = 6) (iP (p.o.x < (0 : Int)) z0 (iP ((1099511627776 : Int) < p.o.x) z0 (iP (p.o.x = p.o.x) (iP ((0 : Int) = p.o.y) (iP ((0 : Int) = p.o.i) (iP ((0 : Int) = p.o.at_) (iP ((0 : Int) = p.o.mode) (iP ((0 : Int) = p.o.mask) (iP ((0 : Int) = p.o.grp) (exB fun p7 : A_rsamen => mP (([.nilS, .sy (.imm p.o.hp 5 PtR p.o.ps encP)], .leaf, 0) = I_rsamen p7) (allB fun r6 : R_rsamen => iP (po_rsamen p7 r6) (K (.sy (.bool r6.q)) .leaf 0) true)) z0) z0) z0) z0) z0) z0) z0))) (iP (p.o.kind = 7) (iP (p.o.x < (0 : Int)) z0 (iP ((1099511627776 : Int) < p.o.x) z0 (iP (p.o.y < (0 : Int)) z0 (iP ((1099511627776 : Int) < p.o.y) z0 (iP (p.o.x = p.o.x) (iP (p.o.y = p.o.y) (iP ((0 : Int) = p.o.i) (iP ((0 : Int) = p.o.at_) (iP ((0 : Int) = p.o.mode) (iP ((0 : Int) = p.o.mask) (iP ((0 : Int) = p.o.grp) (exB fun p6 : A_rsamen => mP (([.nilS, .sy (.imm p.o.hp 5 PtR p.o.ps encP)], .leaf, 0) = I_rsamen p6) (allB fun r5 : R_rsamen => iP (po_rsamen p6 r5) (K (.sy (.bool r5.q)) .leaf 0) true)) z0) z0) z0) z0) z0) z0) z0))))) (iP (p.o.kind = 8) (iP (p.o.x < (0 : Int)) z0 (iP ((1099511627776 : Int) < p.o.x) z0 (iP (p.o.x = p.o.x) (iP ((0 : Int) = p.o.y) (iP ((0 : Int) = p.o.i) (iP ((0 : Int) = p.o.at_) (iP ((0 : Int) = p.o.mode) (iP ((0 : Int) = p.o.mask) (iP ((0 : Int) = p.o.grp) (exB fun p5 : A_rsamen => mP (([.nilS, .sy (.imm p.o.hp 5 PtR p.o.ps encP)], .leaf, 0) = I_rsamen p5) (allB fun r4 : R_rsamen => iP (po_rsamen p5 r4) (K (.sy (.bool r4.q)) .leaf 0) true)) z0) z0) z0) z0) z0) z0) z0))) (iP (p.o.kind = 9) (iP (p.o.x < (0 : Int)) z0 (iP ((1099511627776 : Int) < p.o.x) z0 (iP (p.o.x = p.o.x) (iP ((0 : Int) = p.o.y) (iP ((0 : Int) = p.o.i) (iP ((0 : Int) = p.o.at_) (iP ((0 : Int) = p.o.mode) (iP ((0 : Int) = p.o.mask) (iP ((0 : Int) = p.o.grp) (exB fun p4 : A_rsamen => mP (([.nilS, .sy (.imm p.o.hp 5 PtR p.o.ps encP)], .leaf, 0) = I_rsamen p4) (allB fun r3 : R_rsamen => iP (po_rsamen p4 r3) (K (.sy (.bool r3.q)) .leaf 0) true)) z0) z0) z0) z0) z0) z0) z0))) (iP (p.o.kind = 10) (iP (p.o.x < (0 : Int)) z0 (iP ((1099511627776 : Int) < p.o.x) z0 (iP (p.o.x = p.o.x) (iP ((0 : Int) = p.o.y) (iP ((0 : Int) = p.o.i) (iP ((0 : Int) = p.o.at_) (iP ((0 : Int) = p.o.mode) (iP ((0 : Int) = p.o.mask) (iP ((0 : Int) = p.o.grp) (exB fun p3 : A_rsamen => mP (([.nilS, .sy (.imm p.o.hp 5 PtR p.o.ps encP)], .leaf, 0) = I_rsamen p3) (allB fun r2 : R_rsamen => iP (po_rsamen p3 r2) (K (.sy (.bool r2.q)) .leaf 0) true)) z0) z0) z0) z0) z0) z0) z0))) (iP (p.o.kind = 11) (iP (p.o.x < (0 : Int)) z0 (iP ((1099511627776 : Int) < p.o.x) z0 (iP (p.o.x = p.o.x) (iP ((0 : Int) = p.o.y) (iP ((0 : Int) = p.o.i) (iP ((0 : Int) = p.o.at_) (iP ((0 : Int) = p.o.mode) (iP ((0 : Int) = p.o.mask) (iP ((0 : Int) = p.o.grp) (exB fun p2 : A_rsamen => mP (([.nilS, .sy (.imm p.o.hp 5 PtR p.o.ps encP)], .leaf, 0) = I_rsamen p2) (allB fun r1 : R_rsamen => iP (po_rsamen p2 r1) (K (.sy (.bool r1.q)) .leaf 0) true)) z0) z0) z0) z0) z0) z0) z0))) (exB fun p1 : A_wordsOut => mP (([.sy (.int 0 p.o.kind)], .leaf, 0) = I_wordsOut p1) (mP (pre_wordsOut p1) z0))))))))))))))) (by kernel_rfl) ?_
  dsimp only [pre_rop] at hpre
  obtain ⟨hl, hmk, hrg⟩ := hpre
  refine iI (fun hc1 => ?_) (fun hc1 => ?_)
  refine iI (fun hc2 => ?_) (fun hc2 => ?_)
  exact fin_rop hK ⟨false = true⟩
  refine iI (fun hc3 => ?_) (fun hc3 => ?_)
  exact fin_rop hK ⟨false = true⟩
  refine iI (fun hc4 => ?_) (fun hc4 => ?_)
  exact fin_rop hK ⟨false = true⟩
  refine iI (fun hc5 => ?_) (fun hc5 => ?_)
  exact fin_rop hK ⟨false = true⟩
  refine callPR (⟨p.o.hp, p.o.ps⟩ : A_rall) rfl (by (try dsimp only [pre_rall]) ; exact ⟨by omega, by assumption⟩) fun r12 hi6 => ?_
  dsimp only [po_rall] at hi6
  refine iI (fun hc7 => ?_) (fun hc7 => ?_)
  exact fin_rop hK ⟨false = true⟩
  refine mI (by first | omega | (constructor <;> omega) | (have e9 := (by assumption : _ ↔ partsR _) ; unfold partsR at e9 ; have e8 := e9.1 (by first | assumption | exact Classical.not_not.1 (by assumption)) ; omega)) ?_
  refine allB_mk (fun x1 => ?_)
  refine iI (fun hi8 => ?_) (fun _ => rfl)
  refine iI (fun hc9 => ?_) (fun hc9 => ?_)
  exact fin_rop hK ⟨false = true⟩
  refine callP (⟨p.o.x, p.o.y, p.o.i, p.o.at_, p.o.mode, p.o.mask, p.o.grp, p.o.hp, p.o.ps, (0 : Int)⟩ : A_l_rop) rfl (by (try dsimp only [pre_l_rop]) ; exact ⟨hl, by omega, by omega, hrg, fun j y h1 h2 => by omega⟩) ?_
  refine must_mk ?_ ?_
  refine iI (p := ∀ x ∈ p.o.ps, spokenR x) (fun hi10 => ?_) (fun _ => rfl)
  refine iI (p := p.o.x = p.o.x) (fun hc11 => ?_) (fun hc11 => ?_)
  refine iI (p := (0 : Int) = p.o.y) (fun hc12 => ?_) (fun hc12 => ?_)
  refine iI (p := (0 : Int) = p.o.i) (fun hc13 => ?_) (fun hc13 => ?_)
  refine iI (p := (0 : Int) = p.o.at_) (fun hc14 => ?_) (fun hc14 => ?_)
  refine iI (p := p.o.mode = p.o.mode) (fun hc15 => ?_) (fun hc15 => ?_)
  refine iI (p := (0 : Int) = p.o.mask) (fun hc16 => ?_) (fun hc16 => ?_)
  refine iI (p := p.o.grp = p.o.grp) (fun hc17 => ?_) (fun hc17 => ?_)
  refine callPR (⟨p.o.hp, p.o.ps, p.o.hp, p.o.ps⟩ : A_rsame) rfl (by (try dsimp only [pre_rsame]) ; omega) fun r13 hi18 => ?_
  dsimp only [po_rsame] at hi18
  exact fin_rop hK ⟨r13.q⟩
  exact fin_rop hK ⟨false = true⟩
  exact fin_rop hK ⟨false = true⟩
  exact fin_rop hK ⟨false = true⟩
  exact fin_rop hK ⟨false = true⟩
  exact fin_rop hK ⟨false = true⟩
  exact fin_rop hK ⟨false = true⟩
  exact fin_rop hK ⟨false = true⟩
  refine iI (p := ¬ ∀ x ∈ p.o.ps, spokenR x) (fun hi19 => ?_) (fun _ => rfl)
  exact fin_rop hK ⟨false = true⟩
  refine iI (fun hc20 => ?_) (fun hc20 => ?_)
  refine iI (fun hc21 => ?_) (fun hc21 => ?_)
  exact fin_rop hK ⟨false = true⟩
  refine iI (fun hc22 => ?_) (fun hc22 => ?_)
  exact fin_rop hK ⟨false = true⟩
  refine iI (fun hc23 => ?_) (fun hc23 => ?_)
  exact fin_rop hK ⟨false = true⟩
  refine iI (fun hc24 => ?_) (fun hc24 => ?_)
  exact fin_rop hK ⟨false = true⟩
  refine iI (fun hc25 => ?_) (fun hc25 => ?_)
  refine iI (fun hc26 => ?_) (fun hc26 => ?_)
  refine iI (fun hc27 => ?_) (fun hc27 => ?_)
  refine iI (fun hc28 => ?_) (fun hc28 => ?_)
  refine iI (fun hc29 => ?_) (fun hc29 => ?_)
  refine iI (fun hc30 => ?_) (fun hc30 => ?_)
  refine iI (fun hc31 => ?_) (fun hc31 => ?_)
  refine callR (⟨p.o.hp, p.o.ps⟩ : A_rsamen) rfl fun r11 hi32 => ?_
  dsimp only [po_rsamen] at hi32
  exact fin_rop hK ⟨r11.q⟩
  exact fin_rop hK ⟨false = true⟩
  exact fin_rop hK ⟨false = true⟩
  exact fin_rop hK ⟨false = true⟩
  exact fin_rop hK ⟨false = true⟩
  exact fin_rop hK ⟨false = true⟩
  exact fin_rop hK ⟨false = true⟩
  exact fin_rop hK ⟨false = true⟩
  refine iI (fun hc33 => ?_) (fun hc33 => ?_)
  refine iI (fun hc34 => ?_) (fun hc34 => ?_)
  exact fin_rop hK ⟨false = true⟩
  refine iI (fun hc35 => ?_) (fun hc35 => ?_)
  exact fin_rop hK ⟨false = true⟩
  refine iI (fun hc36 => ?_) (fun hc36 => ?_)
  refine iI (fun hc37 => ?_) (fun hc37 => ?_)
  refine iI (fun hc38 => ?_) (fun hc38 => ?_)
  refine iI (fun hc39 => ?_) (fun hc39 => ?_)
  refine iI (fun hc40 => ?_) (fun hc40 => ?_)
  refine iI (fun hc41 => ?_) (fun hc41 => ?_)
  refine iI (fun hc42 => ?_) (fun hc42 => ?_)
  refine callR (⟨p.o.hp, p.o.ps⟩ : A_rsamen) rfl fun r10 hi43 => ?_
  dsimp only [po_rsamen] at hi43
  exact fin_rop hK ⟨r10.q⟩
  exact fin_rop hK ⟨false = true⟩
  exact fin_rop hK ⟨false = true⟩
  exact fin_rop hK ⟨false = true⟩
  exact fin_rop hK ⟨false = true⟩
  exact fin_rop hK ⟨false = true⟩
  exact fin_rop hK ⟨false = true⟩
  exact fin_rop hK ⟨false = true⟩
  refine iI (fun hc44 => ?_) (fun hc44 => ?_)
  refine iI (fun hc45 => ?_) (fun hc45 => ?_)
  exact fin_rop hK ⟨false = true⟩
  refine iI (fun hc46 => ?_) (fun hc46 => ?_)
  exact fin_rop hK ⟨false = true⟩
  refine iI (fun hc47 => ?_) (fun hc47 => ?_)
  refine iI (fun hc48 => ?_) (fun hc48 => ?_)
  refine iI (fun hc49 => ?_) (fun hc49 => ?_)
  refine iI (fun hc50 => ?_) (fun hc50 => ?_)
  refine iI (fun hc51 => ?_) (fun hc51 => ?_)
  refine iI (fun hc52 => ?_) (fun hc52 => ?_)
  refine iI (fun hc53 => ?_) (fun hc53 => ?_)
  refine callR (⟨p.o.hp, p.o.ps⟩ : A_rsamen) rfl fun r9 hi54 => ?_
  dsimp only [po_rsamen] at hi54
  exact fin_rop hK ⟨r9.q⟩
  exact fin_rop hK ⟨false = true⟩
  exact fin_rop hK ⟨false = true⟩
  exact fin_rop hK ⟨false = true⟩
  exact fin_rop hK ⟨false = true⟩
  exact fin_rop hK ⟨false = true⟩
  exact fin_rop hK ⟨false = true⟩
  exact fin_rop hK ⟨false = true⟩
  refine iI (fun hc55 => ?_) (fun hc55 => ?_)
  refine iI (fun hc56 => ?_) (fun hc56 => ?_)
  exact fin_rop hK ⟨false = true⟩
  refine iI (fun hc57 => ?_) (fun hc57 => ?_)
  exact fin_rop hK ⟨false = true⟩
  refine iI (fun hc58 => ?_) (fun hc58 => ?_)
  refine iI (fun hc59 => ?_) (fun hc59 => ?_)
  refine iI (fun hc60 => ?_) (fun hc60 => ?_)
  refine iI (fun hc61 => ?_) (fun hc61 => ?_)
  refine iI (fun hc62 => ?_) (fun hc62 => ?_)
  refine iI (fun hc63 => ?_) (fun hc63 => ?_)
  refine iI (fun hc64 => ?_) (fun hc64 => ?_)
  refine callR (⟨p.o.hp, p.o.ps⟩ : A_rsamen) rfl fun r8 hi65 => ?_
  dsimp only [po_rsamen] at hi65
  exact fin_rop hK ⟨r8.q⟩
  exact fin_rop hK ⟨false = true⟩
  exact fin_rop hK ⟨false = true⟩
  exact fin_rop hK ⟨false = true⟩
  exact fin_rop hK ⟨false = true⟩
  exact fin_rop hK ⟨false = true⟩
  exact fin_rop hK ⟨false = true⟩
  exact fin_rop hK ⟨false = true⟩
  refine iI (fun hc66 => ?_) (fun hc66 => ?_)
  refine iI (fun hc67 => ?_) (fun hc67 => ?_)
  exact fin_rop hK ⟨false = true⟩
  refine iI (fun hc68 => ?_) (fun hc68 => ?_)
  exact fin_rop hK ⟨false = true⟩
  refine iI (fun hc69 => ?_) (fun hc69 => ?_)
  exact fin_rop hK ⟨false = true⟩
  refine iI (fun hc70 => ?_) (fun hc70 => ?_)
  exact fin_rop hK ⟨false = true⟩
  refine mI (by simp only [InR] ; omega) ?_
  refine iI (fun hc71 => ?_) (fun hc71 => ?_)
  exact fin_rop hK ⟨false = true⟩
  refine iI (fun hc72 => ?_) (fun hc72 => ?_)
  exact fin_rop hK ⟨false = true⟩
  refine mI (by simp only [InR] ; omega) ?_
  refine iI (fun hc73 => ?_) (fun hc73 => ?_)
  refine iI (fun hc74 => ?_) (fun hc74 => ?_)
  refine iI (fun hc75 => ?_) (fun hc75 => ?_)
  refine iI (fun hc76 => ?_) (fun hc76 => ?_)
  refine iI (fun hc77 => ?_) (fun hc77 => ?_)
  refine iI (fun hc78 => ?_) (fun hc78 => ?_)
  refine iI (fun hc79 => ?_) (fun hc79 => ?_)
  refine callR (⟨p.o.hp, p.o.ps⟩ : A_rsamen) rfl fun r7 hi80 => ?_
  dsimp only [po_rsamen] at hi80
  exact fin_rop hK ⟨r7.q⟩
  exact fin_rop hK ⟨false = true⟩
  exact fin_rop hK ⟨false = true⟩
  exact fin_rop hK ⟨false = true⟩
  exact fin_rop hK ⟨false = true⟩
  exact fin_rop hK ⟨false = true⟩
  exact fin_rop hK ⟨false = true⟩
  exact fin_rop hK ⟨false = true⟩
  refine iI (fun hc81 => ?_) (fun hc81 => ?_)
  refine iI (fun hc82 => ?_) (fun hc82 => ?_)
  exact fin_rop hK ⟨false = true⟩
  refine iI (fun hc83 => ?_) (fun hc83 => ?_)
  exact fin_rop hK ⟨false = true⟩
  refine iI (fun hc84 => ?_) (fun hc84 => ?_)
  refine iI (fun hc85 => ?_) (fun hc85 => ?_)
  refine iI (fun hc86 => ?_) (fun hc86 => ?_)
  refine iI (fun hc87 => ?_) (fun hc87 => ?_)
  refine iI (fun hc88 => ?_) (fun hc88 => ?_)
  refine iI (fun hc89 => ?_) (fun hc89 => ?_)
  refine iI (fun hc90 => ?_) (fun hc90 => ?_)
  refine callR (⟨p.o.hp, p.o.ps⟩ : A_rsamen) rfl fun r6 hi91 => ?_
  dsimp only [po_rsamen] at hi91
  exact fin_rop hK ⟨r6.q⟩
  exact fin_rop hK ⟨false = true⟩
  exact fin_rop hK ⟨false = true⟩
  exact fin_rop hK ⟨false = true⟩
  exact fin_rop hK ⟨false = true⟩
  exact fin_rop hK ⟨false = true⟩
  exact fin_rop hK ⟨false = true⟩
  exact fin_rop hK ⟨false = true⟩
  refine iI (fun hc92 => ?_) (fun hc92 => ?_)
  refine iI (fun hc93 => ?_) (fun hc93 => ?_)
  exact fin_rop hK ⟨false = true⟩
  refine iI (fun hc94 => ?_) (fun hc94 => ?_)
  exact fin_rop hK ⟨false = true⟩
  refine iI (fun hc95 => ?_) (fun hc95 => ?_)
  exact fin_rop hK ⟨false = true⟩
  refine iI (fun hc96 => ?_) (fun hc96 => ?_)
  exact fin_rop hK ⟨false = true⟩
  refine iI (fun hc97 => ?_) (fun hc97 => ?_)
  refine iI (fun hc98 => ?_) (fun hc98 => ?_)
  refine iI (fun hc99 => ?_) (fun hc99 => ?_)
  refine iI (fun hc100 => ?_) (fun hc100 => ?_)
  refine iI (fun hc101 => ?_) (fun hc101 => ?_)
  refine iI (fun hc102 => ?_) (fun hc102 => ?_)
  refine iI (fun hc103 => ?_) (fun hc103 => ?_)
  refine callR (⟨p.o.hp, p.o.ps⟩ : A_rsamen) rfl fun r5 hi104 => ?_
  dsimp only [po_rsamen] at hi104
  exact fin_rop hK ⟨r5.q⟩
  exact fin_rop hK ⟨false = true⟩
  exact fin_rop hK ⟨false = true⟩
  exact fin_rop hK ⟨false = true⟩
  exact fin_rop hK ⟨false = true⟩
  exact fin_rop hK ⟨false = true⟩
  exact fin_rop hK ⟨false = true⟩
  exact fin_rop hK ⟨false = true⟩
  refine iI (fun hc105 => ?_) (fun hc105 => ?_)
  refine iI (fun hc106 => ?_) (fun hc106 => ?_)
  exact fin_rop hK ⟨false = true⟩
  refine iI (fun hc107 => ?_) (fun hc107 => ?_)
  exact fin_rop hK ⟨false = true⟩
  refine iI (fun hc108 => ?_) (fun hc108 => ?_)
  refine iI (fun hc109 => ?_) (fun hc109 => ?_)
  refine iI (fun hc110 => ?_) (fun hc110 => ?_)
  refine iI (fun hc111 => ?_) (fun hc111 => ?_)
  refine iI (fun hc112 => ?_) (fun hc112 => ?_)
  refine iI (fun hc113 => ?_) (fun hc113 => ?_)
  refine iI (fun hc114 => ?_) (fun hc114 => ?_)
  refine callR (⟨p.o.hp, p.o.ps⟩ : A_rsamen) rfl fun r4 hi115 => ?_
  dsimp only [po_rsamen] at hi115
  exact fin_rop hK ⟨r4.q⟩
  exact fin_rop hK ⟨false = true⟩
  exact fin_rop hK ⟨false = true⟩
  exact fin_rop hK ⟨false = true⟩
  exact fin_rop hK ⟨false = true⟩
  exact fin_rop hK ⟨false = true⟩
  exact fin_rop hK ⟨false = true⟩
  exact fin_rop hK ⟨false = true⟩
  refine iI (fun hc116 => ?_) (fun hc116 => ?_)
  refine iI (fun hc117 => ?_) (fun hc117 => ?_)
  exact fin_rop hK ⟨false = true⟩
  refine iI (fun hc118 => ?_) (fun hc118 => ?_)
  exact fin_rop hK ⟨false = true⟩
  refine iI (fun hc119 => ?_) (fun hc119 => ?_)
  refine iI (fun hc120 => ?_) (fun hc120 => ?_)
  refine iI (fun hc121 => ?_) (fun hc121 => ?_)
  refine iI (fun hc122 => ?_) (fun hc122 => ?_)
  refine iI (fun hc123 => ?_) (fun hc123 => ?_)
  refine iI (fun hc124 => ?_) (fun hc124 => ?_)
  refine iI (fun hc125 => ?_) (fun hc125 => ?_)
  refine callR (⟨p.o.hp, p.o.ps⟩ : A_rsamen) rfl fun r3 hi126 => ?_
  dsimp only [po_rsamen] at hi126
  exact fin_rop hK ⟨r3.q⟩
  exact fin_rop hK ⟨false = true⟩
  exact fin_rop hK ⟨false = true⟩
  exact fin_rop hK ⟨false = true⟩
  exact fin_rop hK ⟨false = true⟩
  exact fin_rop hK ⟨false = true⟩
  exact fin_rop hK ⟨false = true⟩
  exact fin_rop hK ⟨false = true⟩
  refine iI (fun hc127 => ?_) (fun hc127 => ?_)
  refine iI (fun hc128 => ?_) (fun hc128 => ?_)
  exact fin_rop hK ⟨false = true⟩
  refine iI (fun hc129 => ?_) (fun hc129 => ?_)
  exact fin_rop hK ⟨false = true⟩
  refine iI (fun hc130 => ?_) (fun hc130 => ?_)
  refine iI (fun hc131 => ?_) (fun hc131 => ?_)
  refine iI (fun hc132 => ?_) (fun hc132 => ?_)
  refine iI (fun hc133 => ?_) (fun hc133 => ?_)
  refine iI (fun hc134 => ?_) (fun hc134 => ?_)
  refine iI (fun hc135 => ?_) (fun hc135 => ?_)
  refine iI (fun hc136 => ?_) (fun hc136 => ?_)
  refine callR (⟨p.o.hp, p.o.ps⟩ : A_rsamen) rfl fun r2 hi137 => ?_
  dsimp only [po_rsamen] at hi137
  exact fin_rop hK ⟨r2.q⟩
  exact fin_rop hK ⟨false = true⟩
  exact fin_rop hK ⟨false = true⟩
  exact fin_rop hK ⟨false = true⟩
  exact fin_rop hK ⟨false = true⟩
  exact fin_rop hK ⟨false = true⟩
  exact fin_rop hK ⟨false = true⟩
  exact fin_rop hK ⟨false = true⟩
  refine iI (fun hc138 => ?_) (fun hc138 => ?_)
  refine iI (fun hc139 => ?_) (fun hc139 => ?_)
  exact fin_rop hK ⟨false = true⟩
  refine iI (fun hc140 => ?_) (fun hc140 => ?_)
  exact fin_rop hK ⟨false = true⟩
  refine iI (fun hc141 => ?_) (fun hc141 => ?_)
  refine iI (fun hc142 => ?_) (fun hc142 => ?_)
  refine iI (fun hc143 => ?_) (fun hc143 => ?_)
  refine iI (fun hc144 => ?_) (fun hc144 => ?_)
  refine iI (fun hc145 => ?_) (fun hc145 => ?_)
  refine iI (fun hc146 => ?_) (fun hc146 => ?_)
  refine iI (fun hc147 => ?_) (fun hc147 => ?_)
  refine callR (⟨p.o.hp, p.o.ps⟩ : A_rsamen) rfl fun r1 hi148 => ?_
  dsimp only [po_rsamen] at hi148
  exact fin_rop hK ⟨r1.q⟩
  exact fin_rop hK ⟨false = true⟩
  exact fin_rop hK ⟨false = true⟩
  exact fin_rop hK ⟨false = true⟩
  exact fin_rop hK ⟨false = true⟩
  exact fin_rop hK ⟨false = true⟩
  exact fin_rop hK ⟨false = true⟩
  exact fin_rop hK ⟨false = true⟩
  refine callP (⟨p.o.kind⟩ : A_wordsOut) rfl (by (try dsimp only [pre_wordsOut]) ; omega) ?_
  exact fin_rop hK ⟨false = true⟩
noncomputable def nat_rop := natC nat_right 0 (esOf I_rop (spP pre_rop out_rop)) 32 [(0, 15)]
theorem nat_rop_ok : NatsOk Tryd.prog nat_rop := natC_ok (natE_said (f := 32) (k := 0) (lp := lp_rop) (lf := 600) ts_mix (cfT_ok nat_right_ok) ft_rop_ok (by rfl) (fun b j x h => (mem_step lo_l_rop (fun h => (by cases h)) h)) fun p K h => vf_rop p K (mustP_ok h).1 (mustP_ok h).2) nat_right_ok
def ft_idxO : XF := .mk 19 (.one 4) (.aft (.seq (g_ 1 [p_ 0 4 (.mv (i_ 0))]) (.seq (.seq (g_ 3 [p_ 0 6 (m_ 0), p_ 1 7 (k_ 6), p_ 2 8 (.mv (i_ 0))]) (.block 2 (.pre [.can 0 [0, 1, 7, 8], .up 7, .up 8, .can 0 [0, 1, 7, 8]] (.inv 0 (.aft (.seq (g_ 1 [p_ 0 9 (.bin 3 0 (.t 8) (.t 7))]) (.seq (.cond (.t 9) .skip (.exit 2)) (.seq (.block 3 (.seq (g_ 2 [p_ 0 10 (m_ 8), p_ 1 5 (m_ 10)]) (.seq (g_ 6 [p_ 0 11 (m_ 1), p_ 1 12 (m_ 0), p_ 2 13 (m_ 5), p_ 3 14 (.ixs 9 (.t 12) (.t 13)), r_ 4 15 (.ld true 9 (.t 14)), .k 5 (some 16) none 11 29 [.t 15]]) (.cond (.t 16) (.seq (g_ 2 [p_ 0 17 (m_ 5), p_ 1 4 (m_ 17)]) .ret) .skip)))) (g_ 2 [p_ 0 18 (.bin 0 0 (.t 8) (i_ 1)), p_ 1 8 (m_ 18)])))) [(0, [.can 0 [0, 1, 7, 8]]), (1, [.can 0 [4]]), (2, [.can 0 []])]))))) (.seq (g_ 1 [p_ 0 4 (.mv (.c (.int 0 (.negSucc 0))))]) .ret))) [(0, [.up 4]), (1, [.up 4])])
theorem ft_idxO_ok : chkF Tryd.prog 52 ft_idxO = true := by kernel_rfl
structure A_l_idxO where
  h : Value
  l : List OpR
  i : Int
structure R_l_idxO1 where
  z : Int
def po_l_idxO (p : A_l_idxO) : Prop := ∀ x ∈ p.l, opR x
def po_l_idxO1 (p : A_l_idxO) (r : R_l_idxO1) : Prop := 0 ≤ r.z ∧ ¬ ∀ x ∈ p.l, opR x
noncomputable def I_l_idxO (p : A_l_idxO) : IL := ((.cons 8 (.sy (.int 0 p.i)) (.cons 7 (.sy (.int 0 (p.l.length : Int))) (.cons 1 (.fn 29 []) (.cons 0 (.sy (.imm p.h 9 OpR p.l encO)) .nil)))), .leaf, 0)
noncomputable def out_l_idxO (p : A_l_idxO) (K : KC) : Bool := must (iP (po_l_idxO p) (K 2 .nil .leaf 0) true) (allB fun r : R_l_idxO1 => iP (po_l_idxO1 p r) (K 1 (.cons 4 (.sy (.int 0 r.z)) .nil) .leaf 0) true)
def pre_l_idxO (p : A_l_idxO) : Prop := okO p.l ∧ 0 ≤ p.i ∧ p.i ≤ (p.l.length : Int) ∧ (∀ (j : Nat) y, (j : Int) < p.i → p.l[j]? = some y → opR y)
noncomputable def sp_l_idxO (p : A_l_idxO) (K : KC) : Bool := must (prB (pre_l_idxO p)) (out_l_idxO p K)
noncomputable def lp_idxO : LpF := fun j S M nx K => (Bool.rec (false) (exB fun p : A_l_idxO => must (prB ((S, M, nx) = I_l_idxO p)) (sp_l_idxO p K)) (Nat.beq j 0))
def mu_l_idxO (p : A_l_idxO) : Nat := ((p.l.length : Int) - p.i).toNat
theorem bk_l_idxO {p q : A_l_idxO} {K : KC} {s : IL} (hm : mu_l_idxO q < mu_l_idxO p) (hp : pre_l_idxO q) (hK : out_l_idxO q K = true) (e : s = I_l_idxO q) : (exB fun q => mP (s = I_l_idxO q ∧ mu_l_idxO q < mu_l_idxO p) (sp_l_idxO q K)) = true := exB_mk q (mustP ⟨e, hm⟩ (mustP hp hK))
def bd_l_idxO : XC := (.aft (.seq (g_ 1 [p_ 0 9 (.bin 3 0 (.t 8) (.t 7))]) (.seq (.cond (.t 9) .skip (.exit 2)) (.seq (.block 3 (.seq (g_ 2 [p_ 0 10 (m_ 8), p_ 1 5 (m_ 10)]) (.seq (g_ 6 [p_ 0 11 (m_ 1), p_ 1 12 (m_ 0), p_ 2 13 (m_ 5), p_ 3 14 (.ixs 9 (.t 12) (.t 13)), r_ 4 15 (.ld true 9 (.t 14)), .k 5 (some 16) none 11 29 [.t 15]]) (.cond (.t 16) (.seq (g_ 2 [p_ 0 17 (m_ 5), p_ 1 4 (m_ 17)]) .ret) .skip)))) (g_ 2 [p_ 0 18 (.bin 0 0 (.t 8) (i_ 1)), p_ 1 8 (m_ 18)])))) [(0, [.can 0 [0, 1, 7, 8]]), (1, [.can 0 [4]]), (2, [.can 0 []])])
theorem vb_l_idxO (p : A_l_idxO) (K : KC) (hpre : pre_l_idxO p) (hK : out_l_idxO p K = true) : (codeX (cfT nat_rop) lp_idxO 600 bd_l_idxO (I_l_idxO p).1 (I_l_idxO p).2.1 (I_l_idxO p).2.2 (fun e S M nx => Nat.casesOn e (exB fun q : A_l_idxO => must (prB ((S, M, nx) = I_l_idxO q ∧ mu_l_idxO q < mu_l_idxO p)) (sp_l_idxO q K)) (fun e2 => K (Nat.succ e2) S M nx))) = true := by
  refine Eq.trans (b := (iP (p.i < (p.l.length : Int)) (mP (0 ≤ p.i ∧ p.i < (p.l.length : Int)) (allB fun x1 : OpR => iP (p.l[p.i.toNat]? = some x1) (useC (([.agg [.sy (.int 0 x1.kind), .sy (.int 0 x1.x), .sy (.int 0 x1.y), .sy (.int 0 x1.i), .sy (.int 0 x1.at_), .sy (.int 0 x1.mode), .sy (.int 3 x1.mask), .sy (.int 1 x1.grp), .sy (.imm x1.hp 5 PtR x1.ps encP)]], .leaf, 0)) I_right pre_right po_right fun p1 r1 => iP (¬ r1.q) (K 1 (.cons 4 (.sy (.int 0 p.i)) .nil) .leaf 0) (mP (InR 0 (p.i + (1 : Int))) (exB fun q1 : A_l_idxO => mP (((.cons 8 (.sy (.int 0 (p.i + (1 : Int)))) (.cons 7 (.sy (.int 0 (p.l.length : Int))) (.cons 1 (.fn 29 []) (.cons 0 (.sy (.imm p.h 9 OpR p.l encO)) .nil)))), .leaf, 0) = I_l_idxO q1 ∧ mu_l_idxO q1 < mu_l_idxO p) (sp_l_idxO q1 K)))) true)) (K 2 .nil .leaf 0))) (by kernel_rfl) ?_
  obtain ⟨hK0, hKr0⟩ := must_ok hK
  have hK1 := hKr0
  dsimp only [pre_l_idxO] at hpre
  obtain ⟨g0, g1, g2, g3⟩ := hpre
  have g9 := g0.1
  refine iI (fun hc1 => ?_) (fun hc1 => ?_)
  refine mI (by first | omega | (constructor <;> omega)) ?_
  refine allB_mk (fun x1 => ?_)
  refine iI (fun hi2 => ?_) (fun _ => rfl)
  have hm_x1 := g0.2 _ x1 (by assumption)
  refine callPR (⟨x1⟩ : A_right) rfl (by (try dsimp only [pre_right]) ; omega) fun r1 hi3 => ?_
  dsimp only [po_right] at hi3
  refine iI (fun hc4 => ?_) (fun hc4 => ?_)
  exact ifB_use (show 0 ≤ p.i ∧ ¬ ∀ x ∈ p.l, opR x from (by exact ⟨by omega, all_no hi2 (by simp_all)⟩)) (allB_ok hK1 (⟨p.i⟩ : R_l_idxO1))
  refine mI (by simp only [InR] ; omega) ?_
  exact bk_l_idxO (q := ⟨p.h, p.l, p.i + (1 : Int)⟩) (by dsimp only [mu_l_idxO] ; omega) (by dsimp only [pre_l_idxO] ; exact ⟨g0, by omega, by omega, all_step g3 (by omega) hi2 (by simp_all)⟩) hK rfl
  exact ifB_use (show ∀ x ∈ p.l, opR x from (by exact all_end g3 (by omega))) hK0
theorem lo_l_idxO : LpOk Tryd.prog 19 0 lp_idxO true 0 bd_l_idxO := by
  exact lp_of (lf := 600) ts_mix (cfT_ok nat_rop_ok) (by rfl) I_l_idxO mu_l_idxO sp_l_idxO (fun b j x h => by cases h) (fun S M nx K h => by obtain ⟨p, h⟩ := exB_ok h; exact ⟨p, (mustP_ok h).1, (mustP_ok h).2⟩) (fun p K h => vb_l_idxO p K (mustP_ok h).1 (mustP_ok h).2)
structure A_idxO where
  h : Value
  l : List OpR
structure R_idxO where
  z : Int
def po_idxO (p : A_idxO) (r : R_idxO) : Prop := (0 ≤ r.z ↔ ¬ ∀ x ∈ p.l, opR x) ∧ (r.z < 0 ↔ ∀ x ∈ p.l, opR x)
noncomputable def I_idxO (p : A_idxO) : IE := ([.sy (.imm p.h 9 OpR p.l encO), .fn 29 []], .leaf, 0)
noncomputable def out_idxO (p : A_idxO) (K : KE) : Bool := allB fun r : R_idxO => iP (po_idxO p r) (K (.sy (.int 0 r.z)) .leaf 0) true
def pre_idxO (p : A_idxO) : Prop := okO p.l
theorem fin_idxO {p : A_idxO} {K : KE} (hK : out_idxO p K = true) (r : R_idxO) (h : po_idxO p r) : K (.sy (.int 0 r.z)) .leaf 0 = true := ifB_use h (allB_ok hK r)
theorem vf_idxO (p : A_idxO) (K : KE) (hpre : pre_idxO p) (hK : out_idxO p K = true) : (funE 0 (cfT nat_rop) lp_idxO 600 ft_idxO (I_idxO p).1 (I_idxO p).2.1 (I_idxO p).2.2 K) = true := by
  refine Eq.trans (b := (exB fun p1 : A_l_idxO => mP (((.cons 8 (.sy (.int 0 0)) (.cons 7 (.sy (.int 0 (p.l.length : Int))) (.cons 1 (.fn 29 []) (.cons 0 (.sy (.imm p.h 9 OpR p.l encO)) .nil)))), .leaf, 0) = I_l_idxO p1) (mP (pre_l_idxO p1) (must (iP (po_l_idxO p1) (K (.sy (.int 0 (-1))) .leaf 0) true) (allB fun r1 : R_l_idxO1 => iP (po_l_idxO1 p1 r1) (K (.sy (.int 0 r1.z)) .leaf 0) true))))) (by kernel_rfl) ?_
  dsimp only [pre_idxO] at hpre
  have g9 := hpre.1
  refine callP (⟨p.h, p.l, (0 : Int)⟩ : A_l_idxO) rfl (by (try dsimp only [pre_l_idxO]) ; exact ⟨hpre, by omega, by omega, fun j y h1 h2 => by omega⟩) ?_
  refine must_mk ?_ ?_
  refine iI (p := ∀ x ∈ p.l, opR x) (fun hi1 => ?_) (fun _ => rfl)
  exact fin_idxO hK ⟨((-1) : Int)⟩ (by dsimp only [po_idxO] <;> (first | (simp_all ; done) | (obtain ⟨a, b⟩ := hi1 ; exact ⟨⟨fun _ => b, fun _ => a⟩, ⟨fun c => absurd c (by omega), fun c => absurd c b⟩⟩)))
  refine allB_mk (fun r1 => ?_)
  refine iI (p := 0 ≤ r1.z ∧ ¬ ∀ x ∈ p.l, opR x) (fun hi2 => ?_) (fun _ => rfl)
  exact fin_idxO hK ⟨r1.z⟩ (by dsimp only [po_idxO] <;> (first | (simp_all ; done) | (obtain ⟨a, b⟩ := hi2 ; exact ⟨⟨fun _ => b, fun _ => a⟩, ⟨fun c => absurd c (by omega), fun c => absurd c b⟩⟩)))
noncomputable def nat_idxO := natC nat_rop 0 (esOf I_idxO (spP pre_idxO out_idxO)) 52 [(0, 23)]
theorem nat_idxO_ok : NatsOk Tryd.prog nat_idxO := natC_ok (natE_said (f := 52) (k := 0) (lp := lp_idxO) (lf := 600) ts_mix (cfT_ok nat_rop_ok) ft_idxO_ok (by rfl) (fun b j x h => (mem_step lo_l_idxO (fun h => (by cases h)) h)) fun p K h => vf_idxO p K (mustP_ok h).1 (mustP_ok h).2) nat_rop_ok
def ft_bigRight : XF := .mk 55 (.one 2) (.aft (.seq (g_ 2 [e_ 0 1 (.box 39 (.t 0)), p_ 1 2 (.mv (.c (.bool false)))]) (.seq (.seq (g_ 5 [p_ 0 8 (f_ 0 1), p_ 1 9 (f_ 0 8), r_ 2 10 (l_ 9), p_ 3 11 (k_ 10), p_ 4 3 (m_ 11)]) (.seq (g_ 6 [p_ 0 12 (m_ 3), p_ 1 13 (.bin 3 4 (.t 12) (i_ 0)), p_ 2 14 (m_ 13), pg_ 3 15 14 false (m_ 3), pg_ 4 16 14 false (.bin 3 2 (.t 15) (i_ 4)), p_ 5 17 (.pick (.t 14) (.c (.bool true)) (.t 16))]) (.cond (.t 17) (.seq (g_ 1 [p_ 0 2 (.mv (.c (.bool false)))]) .ret) .skip))) (.seq (.seq (g_ 5 [p_ 0 18 (f_ 0 1), p_ 1 19 (f_ 0 18), r_ 2 20 (l_ 19), p_ 3 21 (k_ 20), p_ 4 22 (.mv (i_ 0))]) (.block 2 (.pre [.can 0 [1, 20, 21, 22], .up 21, .up 22, .can 0 [1, 20, 21, 22]] (.inv 0 (.aft (.seq (g_ 1 [p_ 0 23 (.bin 3 0 (.t 22) (.t 21))]) (.seq (.cond (.t 23) .skip (.exit 2)) (.seq (.block 3 (.seq (g_ 4 [p_ 0 24 (.ixs 3 (.t 20) (.t 22)), r_ 1 25 (.ld true 3 (.t 24)), e_ 2 5 (.al 73 [.int 0 (.ofNat 0), .int 0 (.ofNat 0), .bool false]), e0_ 3 (.st 3 (.t 5) (.t 25))]) (.seq (g_ 10 [p_ 0 26 (f_ 0 5), r_ 1 27 (l_ 26), c_ 2 28 26 [.t 27], p_ 3 29 (.un 0 (.t 28)), p_ 4 30 (m_ 29), pg_ 5 31 30 false (f_ 1 5), rg_ 6 32 30 false (l_ 31), cg_ 7 33 30 false 26 [.t 32], pg_ 8 34 30 false (.un 0 (.t 33)), p_ 9 35 (.pick (.t 30) (.c (.bool true)) (.t 34))]) (.cond (.t 35) (.seq (g_ 1 [p_ 0 2 (.mv (.c (.bool false)))]) .ret) .skip)))) (g_ 2 [p_ 0 36 (.bin 0 0 (.t 22) (i_ 1)), p_ 1 22 (m_ 36)])))) [(0, [.can 0 [1, 20, 21, 22]]), (1, [.can 0 [2]]), (2, [.can 0 [1]])]))))) (.seq (.seq (g_ 4 [p_ 0 37 (f_ 0 1), c_ 1 38 27 [.t 37], p_ 2 39 (k_ 38), p_ 3 40 (.mv (i_ 0))]) (.block 4 (.loop [1, 2, 7, 38, 39, 40, 41, 42, 43, 44, 45, 46, 47, 48, 49, 50, 51, 52, 53, 54] (.seq (g_ 1 [p_ 0 41 (.bin 3 0 (.t 40) (.t 39))]) (.seq (.cond (.t 41) .skip (.exit 4)) (.seq (.block 5 (.seq (g_ 4 [p_ 0 42 (.ixs 2 (.t 38) (.t 40)), r_ 1 43 (.ld true 2 (.t 42)), e_ 2 7 (.al 80 [.str [], .nilP]), e0_ 3 (.st 2 (.t 7) (.t 43))]) (.seq (g_ 6 [p_ 0 44 (f_ 1 7), r_ 1 45 (l_ 44), p_ 2 46 (n_ 45), r_ 3 47 (l_ 46), c_ 4 48 26 [.t 47], p_ 5 49 (.un 0 (.t 48))]) (.cond (.t 49) (.seq (g_ 1 [p_ 0 2 (.mv (.c (.bool false)))]) .ret) .skip)))) (g_ 2 [p_ 0 50 (.bin 0 0 (.t 40) (i_ 1)), p_ 1 40 (m_ 50)]))))))) (.seq (g_ 5 [p_ 0 51 (f_ 8 1), r_ 1 52 (l_ 51), c_ 2 53 28 [.t 52, .f 29], p_ 3 54 (.un 0 (.t 53)), p_ 4 2 (m_ 54)]) .ret))))) [(0, [.up 2]), (1, [.up 2])])
theorem ft_bigRight_ok : chkF Tryd.prog 11 ft_bigRight = true := by kernel_rfl
structure A_l_bigRightg where
  s : ScR
  i : Int
def po_l_bigRightg (p : A_l_bigRightg) : Prop := ∀ x ∈ p.s.gs, grR x
def po_l_bigRightg1 (p : A_l_bigRightg) : Prop := ¬ ∀ x ∈ p.s.gs, grR x
noncomputable def I_l_bigRightg (p : A_l_bigRightg) : IL := ((.cons 22 (.sy (.int 0 p.i)) (.cons 21 (.sy (.int 0 (p.s.gs.length : Int))) (.cons 20 (.sy (.imm p.s.hg 3 GrR p.s.gs encG)) (.cons 1 (.ptr 0 0) .nil)))), (.node .leaf (some (.blk false 39 9 [[.sy (.imm p.s.hg 3 GrR p.s.gs encG), .sy (.int 0 p.s.clients), .sy (.int 0 p.s.window), .sy (.int 0 p.s.deadline), .sy (.int 0 p.s.pace), .sy (.int 0 p.s.again), .sy (.int 0 p.s.bag), .sy (.int 4 p.s.first), .sy (.imm p.s.ho 9 OpR p.s.os encO)]])) .leaf), 1)
noncomputable def out_l_bigRightg (p : A_l_bigRightg) (K : KC) : Bool := must (iP (po_l_bigRightg p) (K 2 (.cons 1 (.ptr 0 0) .nil) (.node .leaf (some (.blk false 39 9 [[.sy (.imm p.s.hg 3 GrR p.s.gs encG), .sy (.int 0 p.s.clients), .sy (.int 0 p.s.window), .sy (.int 0 p.s.deadline), .sy (.int 0 p.s.pace), .sy (.int 0 p.s.again), .sy (.int 0 p.s.bag), .sy (.int 4 p.s.first), .sy (.imm p.s.ho 9 OpR p.s.os encO)]])) .leaf) 1) true) (iP (po_l_bigRightg1 p) (K 1 (.cons 2 (.bool false) .nil) .leaf 0) true)
def pre_l_bigRightg (p : A_l_bigRightg) : Prop := p.s.gs.length ≤ 4 ∧ 0 ≤ p.i ∧ p.i ≤ (p.s.gs.length : Int) ∧ (∀ (j : Nat) y, (j : Int) < p.i → p.s.gs[j]? = some y → grR y)
noncomputable def sp_l_bigRightg (p : A_l_bigRightg) (K : KC) : Bool := must (prB (pre_l_bigRightg p)) (out_l_bigRightg p K)
noncomputable def lp_bigRight : LpF := fun j S M nx K => (Bool.rec (false) (exB fun p : A_l_bigRightg => must (prB ((S, M, nx) = I_l_bigRightg p)) (sp_l_bigRightg p K)) (Nat.beq j 0))
def mu_l_bigRightg (p : A_l_bigRightg) : Nat := ((p.s.gs.length : Int) - p.i).toNat
theorem bk_l_bigRightg {p q : A_l_bigRightg} {K : KC} {s : IL} (hm : mu_l_bigRightg q < mu_l_bigRightg p) (hp : pre_l_bigRightg q) (hK : out_l_bigRightg q K = true) (e : s = I_l_bigRightg q) : (exB fun q => mP (s = I_l_bigRightg q ∧ mu_l_bigRightg q < mu_l_bigRightg p) (sp_l_bigRightg q K)) = true := exB_mk q (mustP ⟨e, hm⟩ (mustP hp hK))
def bd_l_bigRightg : XC := (.aft (.seq (g_ 1 [p_ 0 23 (.bin 3 0 (.t 22) (.t 21))]) (.seq (.cond (.t 23) .skip (.exit 2)) (.seq (.block 3 (.seq (g_ 4 [p_ 0 24 (.ixs 3 (.t 20) (.t 22)), r_ 1 25 (.ld true 3 (.t 24)), e_ 2 5 (.al 73 [.int 0 (.ofNat 0), .int 0 (.ofNat 0), .bool false]), e0_ 3 (.st 3 (.t 5) (.t 25))]) (.seq (g_ 10 [p_ 0 26 (f_ 0 5), r_ 1 27 (l_ 26), c_ 2 28 26 [.t 27], p_ 3 29 (.un 0 (.t 28)), p_ 4 30 (m_ 29), pg_ 5 31 30 false (f_ 1 5), rg_ 6 32 30 false (l_ 31), cg_ 7 33 30 false 26 [.t 32], pg_ 8 34 30 false (.un 0 (.t 33)), p_ 9 35 (.pick (.t 30) (.c (.bool true)) (.t 34))]) (.cond (.t 35) (.seq (g_ 1 [p_ 0 2 (.mv (.c (.bool false)))]) .ret) .skip)))) (g_ 2 [p_ 0 36 (.bin 0 0 (.t 22) (i_ 1)), p_ 1 22 (m_ 36)])))) [(0, [.can 0 [1, 20, 21, 22]]), (1, [.can 0 [2]]), (2, [.can 0 [1]])])
theorem vb_l_bigRightg (p : A_l_bigRightg) (K : KC) (hpre : pre_l_bigRightg p) (hK : out_l_bigRightg p K = true) : (codeX (cfT nat_idxO) lp_bigRight 600 bd_l_bigRightg (I_l_bigRightg p).1 (I_l_bigRightg p).2.1 (I_l_bigRightg p).2.2 (fun e S M nx => Nat.casesOn e (exB fun q : A_l_bigRightg => must (prB ((S, M, nx) = I_l_bigRightg q ∧ mu_l_bigRightg q < mu_l_bigRightg p)) (sp_l_bigRightg q K)) (fun e2 => K (Nat.succ e2) S M nx))) = true := by
  refine Eq.trans (b := (let z1 : Bool := (K 1 (.cons 2 (.bool false) .nil) .leaf 0); iP (p.i < (p.s.gs.length : Int)) (mP (0 ≤ p.i ∧ p.i < (p.s.gs.length : Int)) (allB fun x1 : GrR => iP (p.s.gs[p.i.toNat]? = some x1) (iP ((0 : Int) ≤ x1.f) (iP (¬ (x1.f ≤ (1099511627776 : Int))) z1 (iP ((0 : Int) ≤ x1.s) (iP (¬ (x1.s ≤ (1099511627776 : Int))) z1 (mP (InR 0 (p.i + (1 : Int))) (exB fun q1 : A_l_bigRightg => mP (((.cons 22 (.sy (.int 0 (p.i + (1 : Int)))) (.cons 21 (.sy (.int 0 (p.s.gs.length : Int))) (.cons 20 (.sy (.imm p.s.hg 3 GrR p.s.gs encG)) (.cons 1 (.ptr 0 0) .nil)))), (.node .leaf (some (.blk false 39 9 [[.sy (.imm p.s.hg 3 GrR p.s.gs encG), .sy (.int 0 p.s.clients), .sy (.int 0 p.s.window), .sy (.int 0 p.s.deadline), .sy (.int 0 p.s.pace), .sy (.int 0 p.s.again), .sy (.int 0 p.s.bag), .sy (.int 4 p.s.first), .sy (.imm p.s.ho 9 OpR p.s.os encO)]])) .leaf), 1) = I_l_bigRightg q1 ∧ mu_l_bigRightg q1 < mu_l_bigRightg p) (sp_l_bigRightg q1 K)))) z1)) z1) true)) (K 2 (.cons 1 (.ptr 0 0) .nil) (.node .leaf (some (.blk false 39 9 [[.sy (.imm p.s.hg 3 GrR p.s.gs encG), .sy (.int 0 p.s.clients), .sy (.int 0 p.s.window), .sy (.int 0 p.s.deadline), .sy (.int 0 p.s.pace), .sy (.int 0 p.s.again), .sy (.int 0 p.s.bag), .sy (.int 4 p.s.first), .sy (.imm p.s.ho 9 OpR p.s.os encO)]])) .leaf) 1))) (by kernel_rfl) ?_
  obtain ⟨hK0, hKr0⟩ := must_ok hK
  have hK1 := hKr0
  dsimp only [pre_l_bigRightg] at hpre
  obtain ⟨g0, g1, g2, g3⟩ := hpre
  refine iI (fun hc1 => ?_) (fun hc1 => ?_)
  refine mI (by first | omega | (constructor <;> omega)) ?_
  refine allB_mk (fun x1 => ?_)
  refine iI (fun hi2 => ?_) (fun _ => rfl)
  refine iI (fun hc3 => ?_) (fun hc3 => ?_)
  refine iI (fun hc4 => ?_) (fun hc4 => ?_)
  exact ifB_use (show ¬ ∀ x ∈ p.s.gs, grR x from (by exact all_no hi2 (by unfold grR ; omega))) hK1
  refine iI (fun hc5 => ?_) (fun hc5 => ?_)
  refine iI (fun hc6 => ?_) (fun hc6 => ?_)
  exact ifB_use (show ¬ ∀ x ∈ p.s.gs, grR x from (by exact all_no hi2 (by unfold grR ; omega))) hK1
  refine mI (by simp only [InR] ; omega) ?_
  exact bk_l_bigRightg (q := ⟨p.s, p.i + (1 : Int)⟩) (by dsimp only [mu_l_bigRightg] ; omega) (by dsimp only [pre_l_bigRightg] ; exact ⟨g0, by omega, by omega, all_step g3 (by omega) hi2 (by unfold grR ; omega)⟩) hK rfl
  exact ifB_use (show ¬ ∀ x ∈ p.s.gs, grR x from (by exact all_no hi2 (by unfold grR ; omega))) hK1
  exact ifB_use (show ¬ ∀ x ∈ p.s.gs, grR x from (by exact all_no hi2 (by unfold grR ; omega))) hK1
  exact ifB_use (show ∀ x ∈ p.s.gs, grR x from (by exact all_end g3 (by omega))) hK0
theorem lo_l_bigRightg : LpOk Tryd.prog 55 0 lp_bigRight true 0 bd_l_bigRightg := by
  exact lp_of (lf := 600) ts_mix (cfT_ok nat_idxO_ok) (by rfl) I_l_bigRightg mu_l_bigRightg sp_l_bigRightg (fun b j x h => by cases h) (fun S M nx K h => by obtain ⟨p, h⟩ := exB_ok h; exact ⟨p, (mustP_ok h).1, (mustP_ok h).2⟩) (fun p K h => vb_l_bigRightg p K (mustP_ok h).1 (mustP_ok h).2)
structure A_bigRight where
  s : ScR
structure R_bigRight where
  q : Prop
def po_bigRight (p : A_bigRight) (r : R_bigRight) : Prop := r.q ↔ scR p.s
noncomputable def I_bigRight (p : A_bigRight) : IE := ([.agg [.sy (.imm p.s.hg 3 GrR p.s.gs encG), .sy (.int 0 p.s.clients), .sy (.int 0 p.s.window), .sy (.int 0 p.s.deadline), .sy (.int 0 p.s.pace), .sy (.int 0 p.s.again), .sy (.int 0 p.s.bag), .sy (.int 4 p.s.first), .sy (.imm p.s.ho 9 OpR p.s.os encO)]], .leaf, 0)
noncomputable def out_bigRight (p : A_bigRight) (K : KE) : Bool := allB fun r : R_bigRight => iP (po_bigRight p r) (K (.sy (.bool r.q)) .leaf 0) true
def pre_bigRight (p : A_bigRight) : Prop := okO p.s.os ∧ p.s.gs.length ≤ 10
theorem fin_bigRight {p : A_bigRight} {K : KE} (hK : out_bigRight p K = true) (r : R_bigRight) (h : po_bigRight p r := by dsimp only [po_bigRight] <;> (unfold scR ; first | (simp_all ; done) | (simp_all ; omega) | (refine ⟨fun h => ⟨⟨by omega, by omega⟩, by assumption, ⟨by omega, by omega⟩, ⟨by omega, by omega⟩, ⟨by omega, by omega⟩, ⟨by omega, by omega⟩, ⟨by omega, by omega⟩, ⟨by omega, by omega⟩, (by assumption : _ ∧ (_ ↔ ∀ x ∈ _, opR x)).2.1 (by omega)⟩, fun h => ?_⟩ ; have e := (by assumption : _ ∧ (_ ↔ ∀ x ∈ _, opR x)).2.2 h.2.2.2.2.2.2.2.2 ; omega) | (constructor <;> intro h <;> simp_all <;> omega) | (refine ⟨fun _ => ⟨⟨by omega, by omega⟩, by assumption, ⟨by omega, by omega⟩, ⟨by omega, by omega⟩, ⟨by omega, by omega⟩, ⟨by omega, by omega⟩, ⟨by omega, by omega⟩, ⟨by omega, by omega⟩, by assumption⟩, fun _ => rfl⟩) | (refine Iff.intro (fun h => (by cases h)) (fun h => ?_) ; exfalso ; obtain ⟨h1, h2, h3⟩ := h ; omega))) : K (.sy (.bool r.q)) .leaf 0 = true := ifB_use h (allB_ok hK r)
theorem vf_bigRight (p : A_bigRight) (K : KE) (hpre : pre_bigRight p) (hK : out_bigRight p K = true) : (funE 0 (cfT nat_idxO) lp_bigRight 600 ft_bigRight (I_bigRight p).1 (I_bigRight p).2.1 (I_bigRight p).2.2 K) = true := by
  refine Eq.trans (b := (let z0 : Bool := (K (.sy (.bool (false = true))) .leaf 0); iP ((p.s.gs.length : Int) = (0 : Int)) z0 (iP ((4 : Int) < (p.s.gs.length : Int)) z0 (exB fun p1 : A_l_bigRightg => mP (((.cons 22 (.sy (.int 0 0)) (.cons 21 (.sy (.int 0 (p.s.gs.length : Int))) (.cons 20 (.sy (.imm p.s.hg 3 GrR p.s.gs encG)) (.cons 1 (.ptr 0 0) .nil)))), (.node .leaf (some (.blk false 39 9 [[.sy (.imm p.s.hg 3 GrR p.s.gs encG), .sy (.int 0 p.s.clients), .sy (.int 0 p.s.window), .sy (.int 0 p.s.deadline), .sy (.int 0 p.s.pace), .sy (.int 0 p.s.again), .sy (.int 0 p.s.bag), .sy (.int 4 p.s.first), .sy (.imm p.s.ho 9 OpR p.s.os encO)]])) .leaf), 1) = I_l_bigRightg p1) (mP (pre_l_bigRightg p1) (must (iP (po_l_bigRightg p1) (iP ((0 : Int) ≤ p1.s.clients) (iP (¬ (p1.s.clients ≤ (1099511627776 : Int))) z0 (iP ((0 : Int) ≤ p1.s.window) (iP (¬ (p1.s.window ≤ (1099511627776 : Int))) z0 (iP ((0 : Int) ≤ p1.s.deadline) (iP (¬ (p1.s.deadline ≤ (1099511627776 : Int))) z0 (iP ((0 : Int) ≤ p1.s.pace) (iP (¬ (p1.s.pace ≤ (1099511627776 : Int))) z0 (iP ((0 : Int) ≤ p1.s.again) (iP (¬ (p1.s.again ≤ (1099511627776 : Int))) z0 (iP ((0 : Int) ≤ p1.s.bag) (iP (¬ (p1.s.bag ≤ (1099511627776 : Int))) z0 (useC (([.sy (.imm p1.s.ho 9 OpR p1.s.os encO), .fn 29 []], .leaf, 0)) I_idxO pre_idxO po_idxO fun p2 r1 => K (.sy (.bool (¬ ((0 : Int) ≤ r1.z)))) .leaf 0)) z0)) z0)) z0)) z0)) z0)) z0) true) (iP (po_l_bigRightg1 p1) z0 true))))))) (by kernel_rfl) ?_
  dsimp only [pre_bigRight] at hpre
  obtain ⟨u1, u2⟩ := hpre
  refine iI (fun hc1 => ?_) (fun hc1 => ?_)
  exact fin_bigRight hK ⟨false = true⟩
  refine iI (fun hc2 => ?_) (fun hc2 => ?_)
  exact fin_bigRight hK ⟨false = true⟩
  refine callP (⟨p.s, (0 : Int)⟩ : A_l_bigRightg) rfl (by (try dsimp only [pre_l_bigRightg]) ; exact ⟨by omega, by omega, by omega, fun j y h1 h2 => by omega⟩) ?_
  refine must_mk ?_ ?_
  refine iI (p := ∀ x ∈ p.s.gs, grR x) (fun hi3 => ?_) (fun _ => rfl)
  refine iI (p := (0 : Int) ≤ p.s.clients) (fun hc4 => ?_) (fun hc4 => ?_)
  refine iI (p := ¬ (p.s.clients ≤ (1099511627776 : Int))) (fun hc5 => ?_) (fun hc5 => ?_)
  exact fin_bigRight hK ⟨false = true⟩
  refine iI (p := (0 : Int) ≤ p.s.window) (fun hc6 => ?_) (fun hc6 => ?_)
  refine iI (p := ¬ (p.s.window ≤ (1099511627776 : Int))) (fun hc7 => ?_) (fun hc7 => ?_)
  exact fin_bigRight hK ⟨false = true⟩
  refine iI (p := (0 : Int) ≤ p.s.deadline) (fun hc8 => ?_) (fun hc8 => ?_)
  refine iI (p := ¬ (p.s.deadline ≤ (1099511627776 : Int))) (fun hc9 => ?_) (fun hc9 => ?_)
  exact fin_bigRight hK ⟨false = true⟩
  refine iI (p := (0 : Int) ≤ p.s.pace) (fun hc10 => ?_) (fun hc10 => ?_)
  refine iI (p := ¬ (p.s.pace ≤ (1099511627776 : Int))) (fun hc11 => ?_) (fun hc11 => ?_)
  exact fin_bigRight hK ⟨false = true⟩
  refine iI (p := (0 : Int) ≤ p.s.again) (fun hc12 => ?_) (fun hc12 => ?_)
  refine iI (p := ¬ (p.s.again ≤ (1099511627776 : Int))) (fun hc13 => ?_) (fun hc13 => ?_)
  exact fin_bigRight hK ⟨false = true⟩
  refine iI (p := (0 : Int) ≤ p.s.bag) (fun hc14 => ?_) (fun hc14 => ?_)
  refine iI (p := ¬ (p.s.bag ≤ (1099511627776 : Int))) (fun hc15 => ?_) (fun hc15 => ?_)
  exact fin_bigRight hK ⟨false = true⟩
  refine callPR (⟨p.s.ho, p.s.os⟩ : A_idxO) rfl (by (try dsimp only [pre_idxO]) ; assumption) fun r1 hi16 => ?_
  dsimp only [po_idxO] at hi16
  exact fin_bigRight hK ⟨¬ ((0 : Int) ≤ r1.z)⟩
  exact fin_bigRight hK ⟨false = true⟩
  exact fin_bigRight hK ⟨false = true⟩
  exact fin_bigRight hK ⟨false = true⟩
  exact fin_bigRight hK ⟨false = true⟩
  exact fin_bigRight hK ⟨false = true⟩
  exact fin_bigRight hK ⟨false = true⟩
  refine iI (p := ¬ ∀ x ∈ p.s.gs, grR x) (fun hi17 => ?_) (fun _ => rfl)
  exact fin_bigRight hK ⟨false = true⟩
noncomputable def nat_bigRight := natC nat_idxO 0 (esOf I_bigRight (spP pre_bigRight out_bigRight)) 11 [(0, 15)]
theorem nat_bigRight_ok : NatsOk Tryd.prog nat_bigRight := natC_ok (natE_said (f := 11) (k := 0) (lp := lp_bigRight) (lf := 600) ts_mix (cfT_ok nat_idxO_ok) ft_bigRight_ok (by rfl) (fun b j x h => (mem_step lo_l_bigRightg (fun h => (by cases h)) h)) fun p K h => vf_bigRight p K (mustP_ok h).1 (mustP_ok h).2) nat_idxO_ok
def ft_rRight : XF := .mk 87 (.one 2) (.aft (.seq (g_ 2 [e_ 0 1 (.box 28 (.t 0)), p_ 1 2 (.mv (.c (.bool false)))]) (.seq (.seq (g_ 12 [p_ 0 8 (f_ 0 1), p_ 1 9 (f_ 0 8), r_ 2 10 (l_ 9), p_ 3 11 (k_ 10), p_ 4 12 (.bin 3 0 (.t 11) (i_ 1)), p_ 5 13 (m_ 12), pg_ 6 14 13 false (f_ 0 1), pg_ 7 15 13 false (f_ 0 14), rg_ 8 16 13 false (l_ 15), pg_ 9 17 13 false (k_ 16), pg_ 10 18 13 false (.bin 3 2 (.t 17) (i_ 4)), p_ 11 19 (.pick (.t 13) (.c (.bool true)) (.t 18))]) (.cond (.t 19) (.seq (g_ 1 [p_ 0 2 (.mv (.c (.bool false)))]) .ret) .skip)) (.seq (.seq (g_ 1 [p_ 0 3 (.mv (i_ 0))]) (.block 2 (.pre [.can 0 [1, 3], .up 3, .can 0 [1, 3]] (.inv 0 (.aft (.seq (.seq (g_ 6 [p_ 0 20 (m_ 3), p_ 1 21 (f_ 0 1), p_ 2 22 (f_ 0 21), r_ 3 23 (l_ 22), p_ 4 24 (k_ 23), p_ 5 25 (.bin 3 0 (.t 20) (.t 24))]) (.cond (.t 25) .skip (.exit 2))) (.seq (.block 3 (.seq (g_ 8 [p_ 0 28 (f_ 0 1), p_ 1 29 (f_ 0 28), r_ 2 30 (l_ 29), p_ 3 31 (m_ 3), p_ 4 32 (.ixs 3 (.t 30) (.t 31)), r_ 5 33 (.ld true 3 (.t 32)), e_ 6 4 (.al 83 [.int 0 (.ofNat 0), .int 0 (.ofNat 0), .bool false]), e0_ 7 (.st 3 (.t 4) (.t 33))]) (.seq (g_ 18 [p_ 0 34 (f_ 0 4), r_ 1 35 (l_ 34), p_ 2 36 (.bin 3 0 (.t 35) (i_ 0)), p_ 3 37 (m_ 36), pg_ 4 38 37 false (f_ 1 4), rg_ 5 39 37 false (l_ 38), pg_ 6 40 37 false (.bin 3 0 (.t 39) (i_ 0)), p_ 7 41 (.pick (.t 37) (.c (.bool true)) (.t 40)), p_ 8 42 (m_ 41), pg_ 9 43 42 false (f_ 0 4), rg_ 10 44 42 false (l_ 43), pg_ 11 45 42 false (.bin 3 2 (.t 44) (i_ 1099511627776)), p_ 12 46 (.pick (.t 42) (.c (.bool true)) (.t 45)), p_ 13 47 (m_ 46), pg_ 14 48 47 false (f_ 1 4), rg_ 15 49 47 false (l_ 48), pg_ 16 50 47 false (.bin 3 2 (.t 49) (i_ 1099511627776)), p_ 17 51 (.pick (.t 47) (.c (.bool true)) (.t 50))]) (.cond (.t 51) (.seq (g_ 1 [p_ 0 2 (.mv (.c (.bool false)))]) .ret) .skip)))) (g_ 3 [p_ 0 26 (m_ 3), p_ 1 27 (.bin 0 0 (.t 26) (i_ 1)), p_ 2 3 (m_ 27)]))) [(0, [.can 0 [1, 3]]), (1, [.can 0 [2]]), (2, [.can 0 [1]])]))))) (.seq (g_ 4 [p_ 0 52 (f_ 0 1), r_ 1 53 (.ld true 8 (.t 52)), c_ 2 54 31 [.t 53], p_ 3 5 (m_ 54)]) (.seq (.seq (g_ 1 [p_ 0 6 (.mv (i_ 0))]) (.block 4 (.loop [1, 2, 5, 6, 7, 55, 56, 57, 58, 59, 60, 61, 62, 63, 64, 65, 66, 67, 68, 69, 70, 71, 72, 73, 74, 75, 76, 77, 78, 79, 80, 81, 82, 83, 84, 85, 86] (.seq (.seq (g_ 4 [p_ 0 55 (m_ 6), p_ 1 56 (m_ 5), p_ 2 57 (k_ 56), p_ 3 58 (.bin 3 0 (.t 55) (.t 57))]) (.cond (.t 58) .skip (.exit 4))) (.seq (.block 5 (.seq (g_ 12 [p_ 0 61 (m_ 5), p_ 1 62 (m_ 6), p_ 2 63 (.ixs 1 (.t 61) (.t 62)), r_ 3 64 (l_ 63), p_ 4 65 (.bin 3 0 (.t 64) (i_ 0)), p_ 5 66 (m_ 65), pg_ 6 67 66 false (m_ 5), pg_ 7 68 66 false (m_ 6), pg_ 8 69 66 false (.ixs 1 (.t 67) (.t 68)), rg_ 9 70 66 false (l_ 69), pg_ 10 71 66 false (.bin 3 2 (.t 70) (i_ 1099511627776)), p_ 11 72 (.pick (.t 66) (.c (.bool true)) (.t 71))]) (.cond (.t 72) (.seq (g_ 1 [p_ 0 2 (.mv (.c (.bool false)))]) .ret) .skip))) (g_ 3 [p_ 0 59 (m_ 6), p_ 1 60 (.bin 0 0 (.t 59) (i_ 1)), p_ 2 6 (m_ 60)])))))) (.seq (.seq (g_ 1 [p_ 0 7 (.mv (i_ 0))]) (.block 6 (.pre [.can 0 [1, 7], .up 7, .can 0 [1, 7]] (.inv 1 (.aft (.seq (.seq (g_ 5 [p_ 0 73 (m_ 7), p_ 1 74 (f_ 8 1), r_ 2 75 (l_ 74), p_ 3 76 (k_ 75), p_ 4 77 (.bin 3 0 (.t 73) (.t 76))]) (.cond (.t 77) .skip (.exit 6))) (.seq (.block 7 (.seq (g_ 7 [p_ 0 80 (f_ 8 1), r_ 1 81 (l_ 80), p_ 2 82 (m_ 7), p_ 3 83 (.ixs 9 (.t 81) (.t 82)), r_ 4 84 (.ld true 9 (.t 83)), c_ 5 85 32 [.t 84], p_ 6 86 (.un 0 (.t 85))]) (.cond (.t 86) (.seq (g_ 1 [p_ 0 2 (.mv (.c (.bool false)))]) .ret) .skip))) (g_ 3 [p_ 0 78 (m_ 7), p_ 1 79 (.bin 0 0 (.t 78) (i_ 1)), p_ 2 7 (m_ 79)]))) [(0, [.can 0 [1, 7]]), (1, [.can 0 [2]]), (6, [.can 0 []])]))))) (.seq (g_ 1 [p_ 0 2 (.mv (.c (.bool true)))]) .ret))))))) [(0, [.up 2]), (1, [.up 2])])
theorem ft_rRight_ok : chkF Tryd.prog 12 ft_rRight = true := by kernel_rfl
structure A_l_rRightg where
  s : ScR
  i : Int
def po_l_rRightg (p : A_l_rRightg) : Prop := ∀ x ∈ p.s.gs, grR x
def po_l_rRightg1 (p : A_l_rRightg) : Prop := ¬ ∀ x ∈ p.s.gs, grR x
noncomputable def I_l_rRightg (p : A_l_rRightg) : IL := ((.cons 3 (.sy (.int 0 p.i)) (.cons 1 (.ptr 0 0) .nil)), (.node .leaf (some (.blk false 28 9 [[.sy (.imm p.s.hg 3 GrR p.s.gs encG), .sy (.int 0 p.s.clients), .sy (.int 0 p.s.window), .sy (.int 0 p.s.deadline), .sy (.int 0 p.s.pace), .sy (.int 0 p.s.again), .sy (.int 0 p.s.bag), .sy (.int 4 p.s.first), .sy (.imm p.s.ho 9 OpR p.s.os encO)]])) .leaf), 1)
noncomputable def out_l_rRightg (p : A_l_rRightg) (K : KC) : Bool := must (iP (po_l_rRightg p) (K 2 (.cons 1 (.ptr 0 0) .nil) (.node .leaf (some (.blk false 28 9 [[.sy (.imm p.s.hg 3 GrR p.s.gs encG), .sy (.int 0 p.s.clients), .sy (.int 0 p.s.window), .sy (.int 0 p.s.deadline), .sy (.int 0 p.s.pace), .sy (.int 0 p.s.again), .sy (.int 0 p.s.bag), .sy (.int 4 p.s.first), .sy (.imm p.s.ho 9 OpR p.s.os encO)]])) .leaf) 1) true) (iP (po_l_rRightg1 p) (K 1 (.cons 2 (.bool false) .nil) .leaf 0) true)
def pre_l_rRightg (p : A_l_rRightg) : Prop := p.s.gs.length ≤ 4 ∧ 0 ≤ p.i ∧ p.i ≤ (p.s.gs.length : Int) ∧ (∀ (j : Nat) y, (j : Int) < p.i → p.s.gs[j]? = some y → grR y)
noncomputable def sp_l_rRightg (p : A_l_rRightg) (K : KC) : Bool := must (prB (pre_l_rRightg p)) (out_l_rRightg p K)
structure A_l_rRighto where
  s : ScR
  i : Int
def po_l_rRighto (p : A_l_rRighto) : Prop := ∀ x ∈ p.s.os, opR x
def po_l_rRighto1 (p : A_l_rRighto) : Prop := ¬ ∀ x ∈ p.s.os, opR x
noncomputable def I_l_rRighto (p : A_l_rRighto) : IL := ((.cons 7 (.sy (.int 0 p.i)) (.cons 1 (.ptr 0 0) .nil)), (.node .leaf (some (.blk false 28 9 [[.sy (.imm p.s.hg 3 GrR p.s.gs encG), .sy (.int 0 p.s.clients), .sy (.int 0 p.s.window), .sy (.int 0 p.s.deadline), .sy (.int 0 p.s.pace), .sy (.int 0 p.s.again), .sy (.int 0 p.s.bag), .sy (.int 4 p.s.first), .sy (.imm p.s.ho 9 OpR p.s.os encO)]])) .leaf), 1)
noncomputable def out_l_rRighto (p : A_l_rRighto) (K : KC) : Bool := must (iP (po_l_rRighto p) (K 6 .nil .leaf 0) true) (iP (po_l_rRighto1 p) (K 1 (.cons 2 (.bool false) .nil) .leaf 0) true)
def pre_l_rRighto (p : A_l_rRighto) : Prop := okO p.s.os ∧ 0 ≤ p.i ∧ p.i ≤ (p.s.os.length : Int) ∧ rgS p.s ∧ (∀ (j : Nat) y, (j : Int) < p.i → p.s.os[j]? = some y → opR y)
noncomputable def sp_l_rRighto (p : A_l_rRighto) (K : KC) : Bool := must (prB (pre_l_rRighto p)) (out_l_rRighto p K)
noncomputable def lp_rRight : LpF := fun j S M nx K => (Bool.rec ((Bool.rec (false) (exB fun p : A_l_rRighto => must (prB ((S, M, nx) = I_l_rRighto p)) (sp_l_rRighto p K)) (Nat.beq j 1))) (exB fun p : A_l_rRightg => must (prB ((S, M, nx) = I_l_rRightg p)) (sp_l_rRightg p K)) (Nat.beq j 0))
def mu_l_rRightg (p : A_l_rRightg) : Nat := ((p.s.gs.length : Int) - p.i).toNat
theorem bk_l_rRightg {p q : A_l_rRightg} {K : KC} {s : IL} (hm : mu_l_rRightg q < mu_l_rRightg p) (hp : pre_l_rRightg q) (hK : out_l_rRightg q K = true) (e : s = I_l_rRightg q) : (exB fun q => mP (s = I_l_rRightg q ∧ mu_l_rRightg q < mu_l_rRightg p) (sp_l_rRightg q K)) = true := exB_mk q (mustP ⟨e, hm⟩ (mustP hp hK))
def bd_l_rRightg : XC := (.aft (.seq (.seq (g_ 6 [p_ 0 20 (m_ 3), p_ 1 21 (f_ 0 1), p_ 2 22 (f_ 0 21), r_ 3 23 (l_ 22), p_ 4 24 (k_ 23), p_ 5 25 (.bin 3 0 (.t 20) (.t 24))]) (.cond (.t 25) .skip (.exit 2))) (.seq (.block 3 (.seq (g_ 8 [p_ 0 28 (f_ 0 1), p_ 1 29 (f_ 0 28), r_ 2 30 (l_ 29), p_ 3 31 (m_ 3), p_ 4 32 (.ixs 3 (.t 30) (.t 31)), r_ 5 33 (.ld true 3 (.t 32)), e_ 6 4 (.al 83 [.int 0 (.ofNat 0), .int 0 (.ofNat 0), .bool false]), e0_ 7 (.st 3 (.t 4) (.t 33))]) (.seq (g_ 18 [p_ 0 34 (f_ 0 4), r_ 1 35 (l_ 34), p_ 2 36 (.bin 3 0 (.t 35) (i_ 0)), p_ 3 37 (m_ 36), pg_ 4 38 37 false (f_ 1 4), rg_ 5 39 37 false (l_ 38), pg_ 6 40 37 false (.bin 3 0 (.t 39) (i_ 0)), p_ 7 41 (.pick (.t 37) (.c (.bool true)) (.t 40)), p_ 8 42 (m_ 41), pg_ 9 43 42 false (f_ 0 4), rg_ 10 44 42 false (l_ 43), pg_ 11 45 42 false (.bin 3 2 (.t 44) (i_ 1099511627776)), p_ 12 46 (.pick (.t 42) (.c (.bool true)) (.t 45)), p_ 13 47 (m_ 46), pg_ 14 48 47 false (f_ 1 4), rg_ 15 49 47 false (l_ 48), pg_ 16 50 47 false (.bin 3 2 (.t 49) (i_ 1099511627776)), p_ 17 51 (.pick (.t 47) (.c (.bool true)) (.t 50))]) (.cond (.t 51) (.seq (g_ 1 [p_ 0 2 (.mv (.c (.bool false)))]) .ret) .skip)))) (g_ 3 [p_ 0 26 (m_ 3), p_ 1 27 (.bin 0 0 (.t 26) (i_ 1)), p_ 2 3 (m_ 27)]))) [(0, [.can 0 [1, 3]]), (1, [.can 0 [2]]), (2, [.can 0 [1]])])
theorem vb_l_rRightg (p : A_l_rRightg) (K : KC) (hpre : pre_l_rRightg p) (hK : out_l_rRightg p K = true) : (codeX (cfT nat_bigRight) lp_rRight 600 bd_l_rRightg (I_l_rRightg p).1 (I_l_rRightg p).2.1 (I_l_rRightg p).2.2 (fun e S M nx => Nat.casesOn e (exB fun q : A_l_rRightg => must (prB ((S, M, nx) = I_l_rRightg q ∧ mu_l_rRightg q < mu_l_rRightg p)) (sp_l_rRightg q K)) (fun e2 => K (Nat.succ e2) S M nx))) = true := by
  refine Eq.trans (b := (let z1 : Bool := (K 1 (.cons 2 (.bool false) .nil) .leaf 0); iP (p.i < (p.s.gs.length : Int)) (mP (0 ≤ p.i ∧ p.i < (p.s.gs.length : Int)) (allB fun x1 : GrR => iP (p.s.gs[p.i.toNat]? = some x1) (iP (x1.f < (0 : Int)) z1 (iP (x1.s < (0 : Int)) z1 (iP ((1099511627776 : Int) < x1.f) z1 (iP ((1099511627776 : Int) < x1.s) z1 (mP (InR 0 (p.i + (1 : Int))) (exB fun q1 : A_l_rRightg => mP (((.cons 3 (.sy (.int 0 (p.i + (1 : Int)))) (.cons 1 (.ptr 0 0) .nil)), (.node .leaf (some (.blk false 28 9 [[.sy (.imm p.s.hg 3 GrR p.s.gs encG), .sy (.int 0 p.s.clients), .sy (.int 0 p.s.window), .sy (.int 0 p.s.deadline), .sy (.int 0 p.s.pace), .sy (.int 0 p.s.again), .sy (.int 0 p.s.bag), .sy (.int 4 p.s.first), .sy (.imm p.s.ho 9 OpR p.s.os encO)]])) .leaf), 1) = I_l_rRightg q1 ∧ mu_l_rRightg q1 < mu_l_rRightg p) (sp_l_rRightg q1 K))))))) true)) (K 2 (.cons 1 (.ptr 0 0) .nil) (.node .leaf (some (.blk false 28 9 [[.sy (.imm p.s.hg 3 GrR p.s.gs encG), .sy (.int 0 p.s.clients), .sy (.int 0 p.s.window), .sy (.int 0 p.s.deadline), .sy (.int 0 p.s.pace), .sy (.int 0 p.s.again), .sy (.int 0 p.s.bag), .sy (.int 4 p.s.first), .sy (.imm p.s.ho 9 OpR p.s.os encO)]])) .leaf) 1))) (by kernel_rfl) ?_
  obtain ⟨hK0, hKr0⟩ := must_ok hK
  have hK1 := hKr0
  dsimp only [pre_l_rRightg] at hpre
  obtain ⟨g0, g1, g2, g3⟩ := hpre
  refine iI (fun hc1 => ?_) (fun hc1 => ?_)
  refine mI (by first | omega | (constructor <;> omega)) ?_
  refine allB_mk (fun x1 => ?_)
  refine iI (fun hi2 => ?_) (fun _ => rfl)
  refine iI (fun hc3 => ?_) (fun hc3 => ?_)
  exact ifB_use (show ¬ ∀ x ∈ p.s.gs, grR x from (by exact all_no hi2 (by unfold grR ; omega))) hK1
  refine iI (fun hc4 => ?_) (fun hc4 => ?_)
  exact ifB_use (show ¬ ∀ x ∈ p.s.gs, grR x from (by exact all_no hi2 (by unfold grR ; omega))) hK1
  refine iI (fun hc5 => ?_) (fun hc5 => ?_)
  exact ifB_use (show ¬ ∀ x ∈ p.s.gs, grR x from (by exact all_no hi2 (by unfold grR ; omega))) hK1
  refine iI (fun hc6 => ?_) (fun hc6 => ?_)
  exact ifB_use (show ¬ ∀ x ∈ p.s.gs, grR x from (by exact all_no hi2 (by unfold grR ; omega))) hK1
  refine mI (by simp only [InR] ; omega) ?_
  exact bk_l_rRightg (q := ⟨p.s, p.i + (1 : Int)⟩) (by dsimp only [mu_l_rRightg] ; omega) (by dsimp only [pre_l_rRightg] ; exact ⟨g0, by omega, by omega, all_step g3 (by omega) hi2 (by unfold grR ; omega)⟩) hK rfl
  exact ifB_use (show ∀ x ∈ p.s.gs, grR x from (by exact all_end g3 (by omega))) hK0
theorem lo_l_rRightg : LpOk Tryd.prog 87 0 lp_rRight true 0 bd_l_rRightg := by
  exact lp_of (lf := 600) ts_mix (cfT_ok nat_bigRight_ok) (by rfl) I_l_rRightg mu_l_rRightg sp_l_rRightg (fun b j x h => by cases h) (fun S M nx K h => by obtain ⟨p, h⟩ := exB_ok h; exact ⟨p, (mustP_ok h).1, (mustP_ok h).2⟩) (fun p K h => vb_l_rRightg p K (mustP_ok h).1 (mustP_ok h).2)
def mu_l_rRighto (p : A_l_rRighto) : Nat := ((p.s.os.length : Int) - p.i).toNat
theorem bk_l_rRighto {p q : A_l_rRighto} {K : KC} {s : IL} (hm : mu_l_rRighto q < mu_l_rRighto p) (hp : pre_l_rRighto q) (hK : out_l_rRighto q K = true) (e : s = I_l_rRighto q) : (exB fun q => mP (s = I_l_rRighto q ∧ mu_l_rRighto q < mu_l_rRighto p) (sp_l_rRighto q K)) = true := exB_mk q (mustP ⟨e, hm⟩ (mustP hp hK))
def bd_l_rRighto : XC := (.aft (.seq (.seq (g_ 5 [p_ 0 73 (m_ 7), p_ 1 74 (f_ 8 1), r_ 2 75 (l_ 74), p_ 3 76 (k_ 75), p_ 4 77 (.bin 3 0 (.t 73) (.t 76))]) (.cond (.t 77) .skip (.exit 6))) (.seq (.block 7 (.seq (g_ 7 [p_ 0 80 (f_ 8 1), r_ 1 81 (l_ 80), p_ 2 82 (m_ 7), p_ 3 83 (.ixs 9 (.t 81) (.t 82)), r_ 4 84 (.ld true 9 (.t 83)), c_ 5 85 32 [.t 84], p_ 6 86 (.un 0 (.t 85))]) (.cond (.t 86) (.seq (g_ 1 [p_ 0 2 (.mv (.c (.bool false)))]) .ret) .skip))) (g_ 3 [p_ 0 78 (m_ 7), p_ 1 79 (.bin 0 0 (.t 78) (i_ 1)), p_ 2 7 (m_ 79)]))) [(0, [.can 0 [1, 7]]), (1, [.can 0 [2]]), (6, [.can 0 []])])
theorem vb_l_rRighto (p : A_l_rRighto) (K : KC) (hpre : pre_l_rRighto p) (hK : out_l_rRighto p K = true) : (codeX (cfT nat_bigRight) lp_rRight 600 bd_l_rRighto (I_l_rRighto p).1 (I_l_rRighto p).2.1 (I_l_rRighto p).2.2 (fun e S M nx => Nat.casesOn e (exB fun q : A_l_rRighto => must (prB ((S, M, nx) = I_l_rRighto q ∧ mu_l_rRighto q < mu_l_rRighto p)) (sp_l_rRighto q K)) (fun e2 => K (Nat.succ e2) S M nx))) = true := by
  refine Eq.trans (b := (iP (p.i < (p.s.os.length : Int)) (mP (0 ≤ p.i ∧ p.i < (p.s.os.length : Int)) (allB fun x1 : OpR => iP (p.s.os[p.i.toNat]? = some x1) (useC (([.agg [.sy (.int 0 x1.kind), .sy (.int 0 x1.x), .sy (.int 0 x1.y), .sy (.int 0 x1.i), .sy (.int 0 x1.at_), .sy (.int 0 x1.mode), .sy (.int 3 x1.mask), .sy (.int 1 x1.grp), .sy (.imm x1.hp 5 PtR x1.ps encP)]], .leaf, 0)) I_rop pre_rop po_rop fun p1 r1 => iP (¬ r1.q) (K 1 (.cons 2 (.bool false) .nil) .leaf 0) (mP (InR 0 (p.i + (1 : Int))) (exB fun q1 : A_l_rRighto => mP (((.cons 7 (.sy (.int 0 (p.i + (1 : Int)))) (.cons 1 (.ptr 0 0) .nil)), (.node .leaf (some (.blk false 28 9 [[.sy (.imm p.s.hg 3 GrR p.s.gs encG), .sy (.int 0 p.s.clients), .sy (.int 0 p.s.window), .sy (.int 0 p.s.deadline), .sy (.int 0 p.s.pace), .sy (.int 0 p.s.again), .sy (.int 0 p.s.bag), .sy (.int 4 p.s.first), .sy (.imm p.s.ho 9 OpR p.s.os encO)]])) .leaf), 1) = I_l_rRighto q1 ∧ mu_l_rRighto q1 < mu_l_rRighto p) (sp_l_rRighto q1 K)))) true)) (K 6 .nil .leaf 0))) (by kernel_rfl) ?_
  obtain ⟨hK0, hKr0⟩ := must_ok hK
  have hK1 := hKr0
  dsimp only [pre_l_rRighto] at hpre
  obtain ⟨g0, g1, g2, g3, g4⟩ := hpre
  have g9 := g0.1
  refine iI (fun hc1 => ?_) (fun hc1 => ?_)
  refine mI (by first | omega | (constructor <;> omega)) ?_
  refine allB_mk (fun x1 => ?_)
  refine iI (fun hi2 => ?_) (fun _ => rfl)
  have hm_x1 := g0.2 _ x1 (by assumption)
  have hr_x1 := (g3.2.2.2 _ (List.mem_of_getElem? (by assumption : p.s.os[p.i.toNat]? = some x1))).2.2.2
  have hk_x1 := (g3.2.2.2 _ (List.mem_of_getElem? (by assumption : p.s.os[p.i.toNat]? = some x1))).2.1
  refine callPR (⟨x1⟩ : A_rop) rfl (by (try dsimp only [pre_rop]) ; exact ⟨by omega, by omega, by assumption⟩) fun r1 hi3 => ?_
  dsimp only [po_rop] at hi3
  refine iI (fun hc4 => ?_) (fun hc4 => ?_)
  exact ifB_use (show ¬ ∀ x ∈ p.s.os, opR x from (by exact all_no hi2 (by simp_all))) hK1
  refine mI (by simp only [InR] ; omega) ?_
  exact bk_l_rRighto (q := ⟨p.s, p.i + (1 : Int)⟩) (by dsimp only [mu_l_rRighto] ; omega) (by dsimp only [pre_l_rRighto] ; exact ⟨g0, by omega, by omega, g3, all_step g4 (by omega) hi2 (by simp_all)⟩) hK rfl
  exact ifB_use (show ∀ x ∈ p.s.os, opR x from (by exact all_end g4 (by omega))) hK0
theorem lo_l_rRighto : LpOk Tryd.prog 87 0 lp_rRight true 1 bd_l_rRighto := by
  exact lp_of (lf := 600) ts_mix (cfT_ok nat_bigRight_ok) (by rfl) I_l_rRighto mu_l_rRighto sp_l_rRighto (fun b j x h => by cases h) (fun S M nx K h => by obtain ⟨p, h⟩ := exB_ok h; exact ⟨p, (mustP_ok h).1, (mustP_ok h).2⟩) (fun p K h => vb_l_rRighto p K (mustP_ok h).1 (mustP_ok h).2)
structure A_rRight where
  s : ScR
structure R_rRight where
  q : Prop
def po_rRight (p : A_rRight) (r : R_rRight) : Prop := r.q ↔ scR p.s
noncomputable def I_rRight (p : A_rRight) : IE := ([.agg [.sy (.imm p.s.hg 3 GrR p.s.gs encG), .sy (.int 0 p.s.clients), .sy (.int 0 p.s.window), .sy (.int 0 p.s.deadline), .sy (.int 0 p.s.pace), .sy (.int 0 p.s.again), .sy (.int 0 p.s.bag), .sy (.int 4 p.s.first), .sy (.imm p.s.ho 9 OpR p.s.os encO)]], .leaf, 0)
noncomputable def out_rRight (p : A_rRight) (K : KE) : Bool := allB fun r : R_rRight => iP (po_rRight p r) (K (.sy (.bool r.q)) .leaf 0) true
def pre_rRight (p : A_rRight) : Prop := okO p.s.os ∧ p.s.gs.length ≤ 10 ∧ rgS p.s
theorem fin_rRight {p : A_rRight} {K : KE} (hK : out_rRight p K = true) (r : R_rRight) (h : po_rRight p r := by dsimp only [po_rRight] <;> (unfold scR ; first | (simp_all ; done) | (simp_all ; omega) | (refine ⟨fun h => ⟨⟨by omega, by omega⟩, by assumption, ⟨by omega, by omega⟩, ⟨by omega, by omega⟩, ⟨by omega, by omega⟩, ⟨by omega, by omega⟩, ⟨by omega, by omega⟩, ⟨by omega, by omega⟩, (by assumption : _ ∧ (_ ↔ ∀ x ∈ _, opR x)).2.1 (by omega)⟩, fun h => ?_⟩ ; have e := (by assumption : _ ∧ (_ ↔ ∀ x ∈ _, opR x)).2.2 h.2.2.2.2.2.2.2.2 ; omega) | (constructor <;> intro h <;> simp_all <;> omega) | (refine ⟨fun _ => ⟨⟨by omega, by omega⟩, by assumption, ⟨by omega, by omega⟩, ⟨by omega, by omega⟩, ⟨by omega, by omega⟩, ⟨by omega, by omega⟩, ⟨by omega, by omega⟩, ⟨by omega, by omega⟩, by assumption⟩, fun _ => rfl⟩) | (refine Iff.intro (fun h => (by cases h)) (fun h => ?_) ; exfalso ; obtain ⟨h1, h2, h3⟩ := h ; omega))) : K (.sy (.bool r.q)) .leaf 0 = true := ifB_use h (allB_ok hK r)
theorem vf_rRight (p : A_rRight) (K : KE) (hpre : pre_rRight p) (hK : out_rRight p K = true) : (funE 0 (cfT nat_bigRight) lp_rRight 600 ft_rRight (I_rRight p).1 (I_rRight p).2.1 (I_rRight p).2.2 K) = true := by
  refine Eq.trans (b := (let z0 : Bool := (K (.sy (.bool (false = true))) .leaf 0); iP ((p.s.gs.length : Int) < (1 : Int)) z0 (iP ((4 : Int) < (p.s.gs.length : Int)) z0 (exB fun p1 : A_l_rRightg => mP (((.cons 3 (.sy (.int 0 0)) (.cons 1 (.ptr 0 0) .nil)), (.node .leaf (some (.blk false 28 9 [[.sy (.imm p.s.hg 3 GrR p.s.gs encG), .sy (.int 0 p.s.clients), .sy (.int 0 p.s.window), .sy (.int 0 p.s.deadline), .sy (.int 0 p.s.pace), .sy (.int 0 p.s.again), .sy (.int 0 p.s.bag), .sy (.int 4 p.s.first), .sy (.imm p.s.ho 9 OpR p.s.os encO)]])) .leaf), 1) = I_l_rRightg p1) (mP (pre_l_rRightg p1) (must (iP (po_l_rRightg p1) (iP (p1.s.clients < (0 : Int)) z0 (iP ((1099511627776 : Int) < p1.s.clients) z0 (iP (p1.s.window < (0 : Int)) z0 (iP ((1099511627776 : Int) < p1.s.window) z0 (iP (p1.s.deadline < (0 : Int)) z0 (iP ((1099511627776 : Int) < p1.s.deadline) z0 (iP (p1.s.pace < (0 : Int)) z0 (iP ((1099511627776 : Int) < p1.s.pace) z0 (iP (p1.s.again < (0 : Int)) z0 (iP ((1099511627776 : Int) < p1.s.again) z0 (iP (p1.s.bag < (0 : Int)) z0 (iP ((1099511627776 : Int) < p1.s.bag) z0 (exB fun p2 : A_l_rRighto => mP (((.cons 7 (.sy (.int 0 0)) (.cons 1 (.ptr 0 0) .nil)), (.node .leaf (some (.blk false 28 9 [[.sy (.imm p1.s.hg 3 GrR p1.s.gs encG), .sy (.int 0 p1.s.clients), .sy (.int 0 p1.s.window), .sy (.int 0 p1.s.deadline), .sy (.int 0 p1.s.pace), .sy (.int 0 p1.s.again), .sy (.int 0 p1.s.bag), .sy (.int 4 p1.s.first), .sy (.imm p1.s.ho 9 OpR p1.s.os encO)]])) .leaf), 1) = I_l_rRighto p2) (mP (pre_l_rRighto p2) (must (iP (po_l_rRighto p2) (K (.sy (.bool (true = true))) .leaf 0) true) (iP (po_l_rRighto1 p2) z0 true)))))))))))))))) true) (iP (po_l_rRightg1 p1) z0 true))))))) (by kernel_rfl) ?_
  dsimp only [pre_rRight] at hpre
  obtain ⟨u1, u2, u3⟩ := hpre
  refine iI (fun hc1 => ?_) (fun hc1 => ?_)
  exact fin_rRight hK ⟨false = true⟩
  refine iI (fun hc2 => ?_) (fun hc2 => ?_)
  exact fin_rRight hK ⟨false = true⟩
  refine callP (⟨p.s, (0 : Int)⟩ : A_l_rRightg) rfl (by (try dsimp only [pre_l_rRightg]) ; exact ⟨by omega, by omega, by omega, fun j y h1 h2 => by omega⟩) ?_
  refine must_mk ?_ ?_
  refine iI (p := ∀ x ∈ p.s.gs, grR x) (fun hi3 => ?_) (fun _ => rfl)
  refine iI (p := p.s.clients < (0 : Int)) (fun hc4 => ?_) (fun hc4 => ?_)
  exact fin_rRight hK ⟨false = true⟩
  refine iI (p := (1099511627776 : Int) < p.s.clients) (fun hc5 => ?_) (fun hc5 => ?_)
  exact fin_rRight hK ⟨false = true⟩
  refine iI (p := p.s.window < (0 : Int)) (fun hc6 => ?_) (fun hc6 => ?_)
  exact fin_rRight hK ⟨false = true⟩
  refine iI (p := (1099511627776 : Int) < p.s.window) (fun hc7 => ?_) (fun hc7 => ?_)
  exact fin_rRight hK ⟨false = true⟩
  refine iI (p := p.s.deadline < (0 : Int)) (fun hc8 => ?_) (fun hc8 => ?_)
  exact fin_rRight hK ⟨false = true⟩
  refine iI (p := (1099511627776 : Int) < p.s.deadline) (fun hc9 => ?_) (fun hc9 => ?_)
  exact fin_rRight hK ⟨false = true⟩
  refine iI (p := p.s.pace < (0 : Int)) (fun hc10 => ?_) (fun hc10 => ?_)
  exact fin_rRight hK ⟨false = true⟩
  refine iI (p := (1099511627776 : Int) < p.s.pace) (fun hc11 => ?_) (fun hc11 => ?_)
  exact fin_rRight hK ⟨false = true⟩
  refine iI (p := p.s.again < (0 : Int)) (fun hc12 => ?_) (fun hc12 => ?_)
  exact fin_rRight hK ⟨false = true⟩
  refine iI (p := (1099511627776 : Int) < p.s.again) (fun hc13 => ?_) (fun hc13 => ?_)
  exact fin_rRight hK ⟨false = true⟩
  refine iI (p := p.s.bag < (0 : Int)) (fun hc14 => ?_) (fun hc14 => ?_)
  exact fin_rRight hK ⟨false = true⟩
  refine iI (p := (1099511627776 : Int) < p.s.bag) (fun hc15 => ?_) (fun hc15 => ?_)
  exact fin_rRight hK ⟨false = true⟩
  refine callP (⟨p.s, (0 : Int)⟩ : A_l_rRighto) rfl (by (try dsimp only [pre_l_rRighto]) ; exact ⟨u1, by omega, by omega, u3, fun j y h1 h2 => by omega⟩) ?_
  refine must_mk ?_ ?_
  refine iI (p := ∀ x ∈ p.s.os, opR x) (fun hi16 => ?_) (fun _ => rfl)
  exact fin_rRight hK ⟨true = true⟩
  refine iI (p := ¬ ∀ x ∈ p.s.os, opR x) (fun hi17 => ?_) (fun _ => rfl)
  exact fin_rRight hK ⟨false = true⟩
  refine iI (p := ¬ ∀ x ∈ p.s.gs, grR x) (fun hi18 => ?_) (fun _ => rfl)
  exact fin_rRight hK ⟨false = true⟩
noncomputable def nat_rRight := natC nat_bigRight 0 (esOf I_rRight (spP pre_rRight out_rRight)) 12 [(0, 15)]
theorem nat_rRight_ok : NatsOk Tryd.prog nat_rRight := natC_ok (natE_said (f := 12) (k := 0) (lp := lp_rRight) (lf := 600) ts_mix (cfT_ok nat_bigRight_ok) ft_rRight_ok (by rfl) (fun b j x h => (mem_step lo_l_rRightg (fun h => (mem_step lo_l_rRighto (fun h => (by cases h)) h)) h)) fun p K h => vf_rRight p K (mustP_ok h).1 (mustP_ok h).2) nat_bigRight_ok
end Go.Proofs.Tryd
namespace Go.Proofs.Tryd
open Go.Proofs.YtdangmomddpegaaDoor (na_idx na_dig na_digL na_fmtU na_verb spIdx)
open Go Go.RowKit Go.Sy
open Go.Eng hiding allB
set_option maxRecDepth 1000000
set_option linter.unusedVariables false
set_option maxHeartbeats 4000000
def partT (p : PtR) : List UInt8 := Lib.itoa p.g ++ 58 :: (Lib.verbT p.k ++ 58 :: (p.key ++ (if p.k = 1 then 58 :: p.val else if p.k = 2 ∨ p.k = 3 then 58 :: Lib.itoa p.n else [])))
theorem verbT_len (k : Int) : (Lib.verbT k).length ≤ 5 := by
  unfold Lib.verbT
  split
  · simp
  · split
    · simp
    · split
      · simp
      · split <;> simp
theorem itoaU {z : Int} (h0 : 0 ≤ z) (h1 : z ≤ 18446744073709551615) : (Lib.itoa z).length ≤ 20 := by
  obtain ⟨u, rfl⟩ : ∃ u : Nat, z = u := ⟨z.toNat, by omega⟩
  rw [Lib.itoa_nonneg, Lib.decDigits_length]
  exact Lib.nDigits_le20 u (by omega)
theorem partR_n {p : PtR} (h : partR p) : 0 ≤ p.n ∧ (p.k = 2 ∨ p.k = 3 → p.val = []) := by
  obtain ⟨_, _, _, h2⟩ := h
  rcases h2 with ⟨_, _, h2⟩ | ⟨_, h3, h2⟩ | ⟨_, h3, h2⟩
  · exact ⟨by omega, by omega⟩
  · exact ⟨by omega, fun _ => h3⟩
  · exact ⟨by omega, fun _ => h3⟩
theorem partT_len {p : PtR} (h : partR p) (h2 : rgP p) : (partT p).length ≤ 110 := by
  have e1 := partR_len h
  have e2 := verbT_len p.k
  have e4 := partR_n h
  unfold rgP at h2
  have e3 := itoaU (z := p.g) h2.1.1 (by omega)
  have e5 := itoaU (z := p.n) e4.1 (by omega)
  unfold partT
  simp only [List.length_append, List.length_cons]
  split
  · simp only [List.length_cons]; omega
  · split
    · simp only [List.length_cons]; omega
    · simp only [List.length_nil]; omega
theorem lenEq {a b : List UInt8} {n : Nat} (h : a = b) (h2 : b.length ≤ n) : a = b ∧ a.length ≤ n := ⟨h, h ▸ h2⟩
noncomputable def nat_n_verb := natC nat_rRight 0 (spN1 1 Lib.verbT) 68 [(0, 20)]
theorem nat_n_verb_ok : NatsOk Tryd.prog nat_n_verb := natC_ok na_verb nat_rRight_ok
def ft_said : XF := .mk 35 (.one 2) (.aft (.seq (g_ 2 [e_ 0 1 (.box 100 (.t 0)), p_ 1 2 (.mv (.c (.str [])))]) (.seq (h_ 11 [p_ 0 4 (f_ 0 1), r_ 1 5 (l_ 4), p_ 2 6 (.cnv 0 (.t 5)), p_ 4 8 (f_ 1 1), r_ 5 9 (l_ 8), p_ 7 11 (f_ 2 1), r_ 8 12 (l_ 11), c_ 3 7 40 [.t 6], a_ 5 9 (l_ 8), a_ 8 12 (l_ 11), c_ 6 10 68 [.t 9], a_ 8 12 (l_ 11), e_ 9 13 (.bsl 9 1 3 [.str [], .str [], .str []] [(0, 1), (1, 1), (2, 1)] [.t 7, .t 10, .t 12]), p_ 10 3 (m_ 13)]) (.seq (.seq (g_ 2 [p_ 0 14 (f_ 1 1), r_ 1 15 (l_ 14)]) (.block 2 (.seq (.block 5 (.block 4 (.seq (.block 3 (.seq (.seq (.seq (g_ 2 [p_ 0 17 (.bin 3 4 (.t 15) (.c (.int 1 (.ofNat 1)))), p_ 1 16 (m_ 17)]) (.cond (.t 16) (.exit 3) .skip)) (.seq (.seq (g_ 2 [p_ 0 19 (.bin 3 4 (.t 15) (.c (.int 1 (.ofNat 2)))), p_ 1 18 (m_ 19)]) (.cond (.t 18) (.exit 4) .skip)) (.seq (g_ 2 [p_ 0 21 (.bin 3 4 (.t 15) (.c (.int 1 (.ofNat 3)))), p_ 1 20 (m_ 21)]) (.cond (.t 20) (.exit 5) .skip)))) (.exit 2))) (.seq (g_ 6 [p_ 0 22 (m_ 3), p_ 1 23 (f_ 3 1), r_ 2 24 (l_ 23), e_ 3 25 (.bsl 9 1 1 [.str []] [(0, 1)] [.t 24]), e_ 4 26 (.app 9 1 16 (.t 22) (.t 25)), p_ 5 3 (m_ 26)]) (.exit 2))))) (.seq (g_ 7 [p_ 0 27 (m_ 3), p_ 1 28 (f_ 4 1), r_ 2 29 (l_ 28), c_ 3 30 69 [.t 29, i_ 10], e_ 4 31 (.bsl 9 1 1 [.str []] [(0, 1)] [.t 30]), e_ 5 32 (.app 9 1 16 (.t 27) (.t 31)), p_ 6 3 (m_ 32)]) (.exit 2))))) (.seq (g_ 3 [p_ 0 33 (m_ 3), c_ 1 34 45 [.t 33, .c (.str [58])], p_ 2 2 (m_ 34)]) .ret)))) [(0, [.up 2]), (1, [.up 2])])
theorem ft_said_ok : chkF Tryd.prog 44 ft_said = true := by kernel_rfl
structure A_said where
  p : PtR
structure R_said where
  s : List UInt8
def po_said (p : A_said) (r : R_said) : Prop := r.s = partT p.p ∧ r.s.length ≤ 110
noncomputable def I_said (p : A_said) : IE := ([.agg [.sy (.int 1 p.p.g), .sy (.int 1 p.p.k), .sy (.str p.p.key), .sy (.str p.p.val), .sy (.int 0 p.p.n)]], .leaf, 0)
noncomputable def out_said (p : A_said) (K : KE) : Bool := allB fun r : R_said => iP (po_said p r) (K (.sy (.str r.s)) .leaf 0) true
def pre_said (p : A_said) : Prop := partR p.p ∧ rgP p.p
theorem fin_said {p : A_said} {K : KE} (hK : out_said p K = true) (r : R_said) (h : po_said p r) : K (.sy (.str r.s)) .leaf 0 = true := ifB_use h (allB_ok hK r)
theorem vf_said (p : A_said) (K : KE) (hpre : pre_said p) (hK : out_said p K = true) : (funE 0 (cfT nat_n_verb) noLp 600 ft_said (I_said p).1 (I_said p).2.1 (I_said p).2.2 K) = true := by
  refine Eq.trans (b := (let z0 : Bool := (K (.sy (.str (Lib.join [Lib.itoa p.p.g, Lib.verbT p.p.k, p.p.key, Lib.itoa p.p.n] (([58] : List Nat).map UInt8.ofNat)))) .leaf 0); mP (InR 0 p.p.g) (mP (InR 0 p.p.g) (mP (((.int 1 p.p.k) : SY) = (.int 1 p.p.k)) (mP (((.str p.p.key) : SY) = (.str p.p.key)) (mP (InR 1 p.p.k) (mP (((.str p.p.key) : SY) = (.str p.p.key)) (iP (p.p.k = (1 : Int)) (mP ((Lib.join [Lib.itoa p.p.g, Lib.verbT p.p.k, p.p.key, p.p.val] (([58] : List Nat).map UInt8.ofNat)).length ≤ 140737488355328) (mP ([Lib.itoa p.p.g, Lib.verbT p.p.k, p.p.key, p.p.val].length ≤ 140737488355328) (K (.sy (.str (Lib.join [Lib.itoa p.p.g, Lib.verbT p.p.k, p.p.key, p.p.val] (([58] : List Nat).map UInt8.ofNat)))) .leaf 0))) (iP (p.p.k = (2 : Int)) (mP (InR 0 p.p.n) (mP ((Lib.join [Lib.itoa p.p.g, Lib.verbT p.p.k, p.p.key, Lib.itoa p.p.n] (([58] : List Nat).map UInt8.ofNat)).length ≤ 140737488355328) (mP ([Lib.itoa p.p.g, Lib.verbT p.p.k, p.p.key, Lib.itoa p.p.n].length ≤ 140737488355328) z0))) (iP (p.p.k = (3 : Int)) (mP (InR 0 p.p.n) (mP ((Lib.join [Lib.itoa p.p.g, Lib.verbT p.p.k, p.p.key, Lib.itoa p.p.n] (([58] : List Nat).map UInt8.ofNat)).length ≤ 140737488355328) (mP ([Lib.itoa p.p.g, Lib.verbT p.p.k, p.p.key, Lib.itoa p.p.n].length ≤ 140737488355328) z0))) (mP ((Lib.join [Lib.itoa p.p.g, Lib.verbT p.p.k, p.p.key] (([58] : List Nat).map UInt8.ofNat)).length ≤ 140737488355328) (mP ([Lib.itoa p.p.g, Lib.verbT p.p.k, p.p.key].length ≤ 140737488355328) (K (.sy (.str (Lib.join [Lib.itoa p.p.g, Lib.verbT p.p.k, p.p.key] (([58] : List Nat).map UInt8.ofNat)))) .leaf 0))))))))))))) (by kernel_rfl) ?_
  dsimp only [pre_said] at hpre
  obtain ⟨pr1, pr2⟩ := hpre
  have pr3 := partR_len pr1
  have pr4 := partR_n pr1
  have pr5 := verbT_len p.p.k
  unfold rgP at pr2
  have pr6 := itoaU (z := p.p.g) pr2.1.1 (by omega)
  have pr7 := itoaU (z := p.p.n) pr4.1 (by omega)
  refine mI (by simp only [InR] ; omega) (mI (by simp only [InR] ; omega) (mI (rfl) (mI (rfl) (mI (by simp only [InR] ; omega) (mI (rfl) ?_)))))
  refine iI (fun hc1 => ?_) (fun hc1 => ?_)
  refine mI (by simp [Lib.join, List.intercalate] ; omega) (mI (by simp) ?_)
  exact fin_said hK ⟨Lib.join [Lib.itoa p.p.g, Lib.verbT p.p.k, p.p.key, p.p.val] (([58] : List Nat).map UInt8.ofNat)⟩ (by dsimp only [po_said] <;> (exact lenEq (by first | (simp_all [partT, Lib.join, List.intercalate, Lib.verbT] ; done) | (unfold partT ; simp [Lib.join, List.intercalate] ; (try simp_all [Lib.verbT]) ; (try omega))) (partT_len pr1 pr2)))
  refine iI (fun hc2 => ?_) (fun hc2 => ?_)
  refine mI (by simp only [InR] ; omega) (mI (by simp [Lib.join, List.intercalate] ; omega) (mI (by simp) ?_))
  exact fin_said hK ⟨Lib.join [Lib.itoa p.p.g, Lib.verbT p.p.k, p.p.key, Lib.itoa p.p.n] (([58] : List Nat).map UInt8.ofNat)⟩ (by dsimp only [po_said] <;> (exact lenEq (by first | (simp_all [partT, Lib.join, List.intercalate, Lib.verbT] ; done) | (unfold partT ; simp [Lib.join, List.intercalate] ; (try simp_all [Lib.verbT]) ; (try omega))) (partT_len pr1 pr2)))
  refine iI (fun hc3 => ?_) (fun hc3 => ?_)
  refine mI (by simp only [InR] ; omega) (mI (by simp [Lib.join, List.intercalate] ; omega) (mI (by simp) ?_))
  exact fin_said hK ⟨Lib.join [Lib.itoa p.p.g, Lib.verbT p.p.k, p.p.key, Lib.itoa p.p.n] (([58] : List Nat).map UInt8.ofNat)⟩ (by dsimp only [po_said] <;> (exact lenEq (by first | (simp_all [partT, Lib.join, List.intercalate, Lib.verbT] ; done) | (unfold partT ; simp [Lib.join, List.intercalate] ; (try simp_all [Lib.verbT]) ; (try omega))) (partT_len pr1 pr2)))
  refine mI (by simp [Lib.join, List.intercalate] ; omega) (mI (by simp) ?_)
  exact fin_said hK ⟨Lib.join [Lib.itoa p.p.g, Lib.verbT p.p.k, p.p.key] (([58] : List Nat).map UInt8.ofNat)⟩ (by dsimp only [po_said] <;> (exact lenEq (by first | (simp_all [partT, Lib.join, List.intercalate, Lib.verbT] ; done) | (unfold partT ; simp [Lib.join, List.intercalate] ; (try simp_all [Lib.verbT]) ; (try omega))) (partT_len pr1 pr2)))
noncomputable def nat_said := natC nat_n_verb 0 (esOf I_said (spP pre_said out_said)) 44 [(0, 15)]
theorem nat_said_ok : NatsOk Tryd.prog nat_said := natC_ok (natE_pl (f := 44) (k := 0) (cfT_ok nat_n_verb_ok) ft_said_ok (by rfl) (by rfl) vf_said) nat_n_verb_ok
def ft_one : XF := .mk 60 (.one 2) (.aft (.seq (g_ 2 [e_ 0 1 (.box 111 (.t 0)), p_ 1 2 (.mv (.c (.str [])))]) (.seq (g_ 6 [p_ 0 4 (f_ 0 1), r_ 1 5 (l_ 4), p_ 2 6 (.cnv 4 (.t 5)), c_ 3 7 47 [.t 6], p_ 4 8 (.bin 4 0 (.t 7) (.c (.str [58]))), p_ 5 3 (m_ 8)]) (.seq (.seq (g_ 2 [p_ 0 9 (f_ 1 1), r_ 1 10 (l_ 9)]) (.block 2 (.seq (g_ 2 [p_ 0 12 (.bin 3 4 (.t 10) (.c (.int 1 (.ofNat 0)))), p_ 1 11 (m_ 12)]) (.cond (.t 11) (.seq (g_ 6 [p_ 0 13 (m_ 3), p_ 1 14 (.bin 4 0 (.t 13) (.c (.str [114, 101, 97, 100, 58]))), p_ 2 15 (f_ 2 1), r_ 3 16 (l_ 15), p_ 4 17 (.bin 4 0 (.t 14) (.t 16)), p_ 5 2 (m_ 17)]) .ret) (.seq (g_ 2 [p_ 0 19 (.bin 3 4 (.t 10) (.c (.int 1 (.ofNat 1)))), p_ 1 18 (m_ 19)]) (.cond (.t 18) (.seq (g_ 10 [p_ 0 20 (m_ 3), p_ 1 21 (.bin 4 0 (.t 20) (.c (.str [119, 114, 105, 116, 101, 58]))), p_ 2 22 (f_ 2 1), r_ 3 23 (l_ 22), p_ 4 24 (.bin 4 0 (.t 21) (.t 23)), p_ 5 25 (.bin 4 0 (.t 24) (.c (.str [58]))), p_ 6 26 (f_ 3 1), r_ 7 27 (l_ 26), p_ 8 28 (.bin 4 0 (.t 25) (.t 27)), p_ 9 2 (m_ 28)]) .ret) (.seq (g_ 2 [p_ 0 30 (.bin 3 4 (.t 10) (.c (.int 1 (.ofNat 2)))), p_ 1 29 (m_ 30)]) (.cond (.t 29) (.seq (h_ 12 [p_ 0 31 (m_ 3), p_ 1 32 (.bin 4 0 (.t 31) (.c (.str [97, 100, 100, 58]))), p_ 2 33 (f_ 2 1), r_ 3 34 (l_ 33), p_ 4 35 (.bin 4 0 (.t 32) (.t 34)), p_ 5 36 (.bin 4 0 (.t 35) (.c (.str [58]))), p_ 6 37 (f_ 4 1), r_ 7 38 (l_ 37), p_ 8 39 (.cnv 4 (.t 38)), c_ 9 40 47 [.t 39], a_ 3 34 (l_ 33), p_ 10 41 (.bin 4 0 (.t 36) (.t 40)), p_ 11 2 (m_ 41)]) .ret) (.seq (g_ 2 [p_ 0 43 (.bin 3 4 (.t 10) (.c (.int 1 (.ofNat 3)))), p_ 1 42 (m_ 43)]) (.cond (.t 42) (.seq (h_ 12 [p_ 0 44 (m_ 3), p_ 1 45 (.bin 4 0 (.t 44) (.c (.str [116, 97, 107, 101, 58]))), p_ 2 46 (f_ 2 1), r_ 3 47 (l_ 46), p_ 4 48 (.bin 4 0 (.t 45) (.t 47)), p_ 5 49 (.bin 4 0 (.t 48) (.c (.str [58]))), p_ 6 50 (f_ 4 1), r_ 7 51 (l_ 50), p_ 8 52 (.cnv 4 (.t 51)), c_ 9 53 47 [.t 52], a_ 3 47 (l_ 46), p_ 10 54 (.bin 4 0 (.t 49) (.t 53)), p_ 11 2 (m_ 54)]) .ret) .skip)))))))))) (.seq (g_ 6 [p_ 0 55 (m_ 3), p_ 1 56 (.bin 4 0 (.t 55) (.c (.str [101, 114, 97, 115, 101, 58]))), p_ 2 57 (f_ 2 1), r_ 3 58 (l_ 57), p_ 4 59 (.bin 4 0 (.t 56) (.t 58)), p_ 5 2 (m_ 59)]) .ret)))) [(0, [.up 2]), (1, [.up 2])])
theorem ft_one_ok : chkF Tryd.prog 51 ft_one = true := by kernel_rfl
structure A_one where
  p : PtR
structure R_one where
  s : List UInt8
def po_one (p : A_one) (r : R_one) : Prop := r.s = partT p.p ∧ r.s.length ≤ 110
noncomputable def I_one (p : A_one) : IE := ([.agg [.sy (.int 1 p.p.g), .sy (.int 1 p.p.k), .sy (.str p.p.key), .sy (.str p.p.val), .sy (.int 0 p.p.n)]], .leaf, 0)
noncomputable def out_one (p : A_one) (K : KE) : Bool := allB fun r : R_one => iP (po_one p r) (K (.sy (.str r.s)) .leaf 0) true
def pre_one (p : A_one) : Prop := partR p.p ∧ rgP p.p
theorem fin_one {p : A_one} {K : KE} (hK : out_one p K = true) (r : R_one) (h : po_one p r) : K (.sy (.str r.s)) .leaf 0 = true := ifB_use h (allB_ok hK r)
theorem vf_one (p : A_one) (K : KE) (hpre : pre_one p) (hK : out_one p K = true) : (funE 0 (cfT nat_said) noLp 600 ft_one (I_one p).1 (I_one p).2.1 (I_one p).2.2 K) = true := by
  refine Eq.trans (b := (mP (InR 4 p.p.g) (mP (InR 4 p.p.g) (mP ((Lib.itoa p.p.g).length + (([58] : List Nat).map UInt8.ofNat).length ≤ 9223372036854775807) (iP (p.p.k = (0 : Int)) (mP (((Lib.itoa p.p.g) ++ (([58] : List Nat).map UInt8.ofNat)).length + (([114, 101, 97, 100, 58] : List Nat).map UInt8.ofNat).length ≤ 9223372036854775807) (mP ((((Lib.itoa p.p.g) ++ (([58] : List Nat).map UInt8.ofNat)) ++ (([114, 101, 97, 100, 58] : List Nat).map UInt8.ofNat)).length + p.p.key.length ≤ 9223372036854775807) (K (.sy (.str ((((Lib.itoa p.p.g) ++ (([58] : List Nat).map UInt8.ofNat)) ++ (([114, 101, 97, 100, 58] : List Nat).map UInt8.ofNat)) ++ p.p.key))) .leaf 0))) (iP (p.p.k = (1 : Int)) (mP (((Lib.itoa p.p.g) ++ (([58] : List Nat).map UInt8.ofNat)).length + (([119, 114, 105, 116, 101, 58] : List Nat).map UInt8.ofNat).length ≤ 9223372036854775807) (mP ((((Lib.itoa p.p.g) ++ (([58] : List Nat).map UInt8.ofNat)) ++ (([119, 114, 105, 116, 101, 58] : List Nat).map UInt8.ofNat)).length + p.p.key.length ≤ 9223372036854775807) (mP (((((Lib.itoa p.p.g) ++ (([58] : List Nat).map UInt8.ofNat)) ++ (([119, 114, 105, 116, 101, 58] : List Nat).map UInt8.ofNat)) ++ p.p.key).length + (([58] : List Nat).map UInt8.ofNat).length ≤ 9223372036854775807) (mP ((((((Lib.itoa p.p.g) ++ (([58] : List Nat).map UInt8.ofNat)) ++ (([119, 114, 105, 116, 101, 58] : List Nat).map UInt8.ofNat)) ++ p.p.key) ++ (([58] : List Nat).map UInt8.ofNat)).length + p.p.val.length ≤ 9223372036854775807) (K (.sy (.str ((((((Lib.itoa p.p.g) ++ (([58] : List Nat).map UInt8.ofNat)) ++ (([119, 114, 105, 116, 101, 58] : List Nat).map UInt8.ofNat)) ++ p.p.key) ++ (([58] : List Nat).map UInt8.ofNat)) ++ p.p.val))) .leaf 0))))) (iP (p.p.k = (2 : Int)) (mP (((Lib.itoa p.p.g) ++ (([58] : List Nat).map UInt8.ofNat)).length + (([97, 100, 100, 58] : List Nat).map UInt8.ofNat).length ≤ 9223372036854775807) (mP ((((Lib.itoa p.p.g) ++ (([58] : List Nat).map UInt8.ofNat)) ++ (([97, 100, 100, 58] : List Nat).map UInt8.ofNat)).length + p.p.key.length ≤ 9223372036854775807) (mP (((((Lib.itoa p.p.g) ++ (([58] : List Nat).map UInt8.ofNat)) ++ (([97, 100, 100, 58] : List Nat).map UInt8.ofNat)) ++ p.p.key).length + (([58] : List Nat).map UInt8.ofNat).length ≤ 9223372036854775807) (mP (InR 4 p.p.n) (mP (InR 4 p.p.n) (mP (((.str p.p.key) : SY) = (.str p.p.key)) (mP ((((((Lib.itoa p.p.g) ++ (([58] : List Nat).map UInt8.ofNat)) ++ (([97, 100, 100, 58] : List Nat).map UInt8.ofNat)) ++ p.p.key) ++ (([58] : List Nat).map UInt8.ofNat)).length + (Lib.itoa p.p.n).length ≤ 9223372036854775807) (K (.sy (.str ((((((Lib.itoa p.p.g) ++ (([58] : List Nat).map UInt8.ofNat)) ++ (([97, 100, 100, 58] : List Nat).map UInt8.ofNat)) ++ p.p.key) ++ (([58] : List Nat).map UInt8.ofNat)) ++ (Lib.itoa p.p.n)))) .leaf 0)))))))) (iP (p.p.k = (3 : Int)) (mP (((Lib.itoa p.p.g) ++ (([58] : List Nat).map UInt8.ofNat)).length + (([116, 97, 107, 101, 58] : List Nat).map UInt8.ofNat).length ≤ 9223372036854775807) (mP ((((Lib.itoa p.p.g) ++ (([58] : List Nat).map UInt8.ofNat)) ++ (([116, 97, 107, 101, 58] : List Nat).map UInt8.ofNat)).length + p.p.key.length ≤ 9223372036854775807) (mP (((((Lib.itoa p.p.g) ++ (([58] : List Nat).map UInt8.ofNat)) ++ (([116, 97, 107, 101, 58] : List Nat).map UInt8.ofNat)) ++ p.p.key).length + (([58] : List Nat).map UInt8.ofNat).length ≤ 9223372036854775807) (mP (InR 4 p.p.n) (mP (InR 4 p.p.n) (mP (((.str p.p.key) : SY) = (.str p.p.key)) (mP ((((((Lib.itoa p.p.g) ++ (([58] : List Nat).map UInt8.ofNat)) ++ (([116, 97, 107, 101, 58] : List Nat).map UInt8.ofNat)) ++ p.p.key) ++ (([58] : List Nat).map UInt8.ofNat)).length + (Lib.itoa p.p.n).length ≤ 9223372036854775807) (K (.sy (.str ((((((Lib.itoa p.p.g) ++ (([58] : List Nat).map UInt8.ofNat)) ++ (([116, 97, 107, 101, 58] : List Nat).map UInt8.ofNat)) ++ p.p.key) ++ (([58] : List Nat).map UInt8.ofNat)) ++ (Lib.itoa p.p.n)))) .leaf 0)))))))) (mP (((Lib.itoa p.p.g) ++ (([58] : List Nat).map UInt8.ofNat)).length + (([101, 114, 97, 115, 101, 58] : List Nat).map UInt8.ofNat).length ≤ 9223372036854775807) (mP ((((Lib.itoa p.p.g) ++ (([58] : List Nat).map UInt8.ofNat)) ++ (([101, 114, 97, 115, 101, 58] : List Nat).map UInt8.ofNat)).length + p.p.key.length ≤ 9223372036854775807) (K (.sy (.str ((((Lib.itoa p.p.g) ++ (([58] : List Nat).map UInt8.ofNat)) ++ (([101, 114, 97, 115, 101, 58] : List Nat).map UInt8.ofNat)) ++ p.p.key))) .leaf 0))))))))))) (by kernel_rfl) ?_
  dsimp only [pre_one] at hpre
  obtain ⟨pr1, pr2⟩ := hpre
  have pr3 := partR_len pr1
  have pr4 := partR_n pr1
  have pr5 := verbT_len p.p.k
  unfold rgP at pr2
  have pr6 := itoaU (z := p.p.g) pr2.1.1 (by omega)
  have pr7 := itoaU (z := p.p.n) pr4.1 (by omega)
  refine mI (by simp only [InR] ; omega) (mI (by simp only [InR] ; omega) (mI (by (try simp only [List.length_append, List.length_map, List.length_cons, List.length_nil]) ; omega) ?_))
  refine iI (fun hc1 => ?_) (fun hc1 => ?_)
  refine mI (by (try simp only [List.length_append, List.length_map, List.length_cons, List.length_nil]) ; omega) (mI (by (try simp only [List.length_append, List.length_map, List.length_cons, List.length_nil]) ; omega) ?_)
  exact fin_one hK ⟨(((Lib.itoa p.p.g) ++ (([58] : List Nat).map UInt8.ofNat)) ++ (([114, 101, 97, 100, 58] : List Nat).map UInt8.ofNat)) ++ p.p.key⟩ (by dsimp only [po_one] <;> (exact lenEq (by first | (simp_all [partT, Lib.join, List.intercalate, Lib.verbT] ; done) | (unfold partT ; simp [Lib.join, List.intercalate] ; (try simp_all [Lib.verbT]) ; (try omega))) (partT_len pr1 pr2)))
  refine iI (fun hc2 => ?_) (fun hc2 => ?_)
  refine mI (by (try simp only [List.length_append, List.length_map, List.length_cons, List.length_nil]) ; omega) (mI (by (try simp only [List.length_append, List.length_map, List.length_cons, List.length_nil]) ; omega) (mI (by (try simp only [List.length_append, List.length_map, List.length_cons, List.length_nil]) ; omega) (mI (by (try simp only [List.length_append, List.length_map, List.length_cons, List.length_nil]) ; omega) ?_)))
  exact fin_one hK ⟨(((((Lib.itoa p.p.g) ++ (([58] : List Nat).map UInt8.ofNat)) ++ (([119, 114, 105, 116, 101, 58] : List Nat).map UInt8.ofNat)) ++ p.p.key) ++ (([58] : List Nat).map UInt8.ofNat)) ++ p.p.val⟩ (by dsimp only [po_one] <;> (exact lenEq (by first | (simp_all [partT, Lib.join, List.intercalate, Lib.verbT] ; done) | (unfold partT ; simp [Lib.join, List.intercalate] ; (try simp_all [Lib.verbT]) ; (try omega))) (partT_len pr1 pr2)))
  refine iI (fun hc3 => ?_) (fun hc3 => ?_)
  refine mI (by (try simp only [List.length_append, List.length_map, List.length_cons, List.length_nil]) ; omega) (mI (by (try simp only [List.length_append, List.length_map, List.length_cons, List.length_nil]) ; omega) (mI (by (try simp only [List.length_append, List.length_map, List.length_cons, List.length_nil]) ; omega) (mI (by simp only [InR] ; omega) (mI (by simp only [InR] ; omega) (mI (rfl) ?_)))))
  refine mI (by (try simp only [List.length_append, List.length_map, List.length_cons, List.length_nil]) ; omega) ?_
  exact fin_one hK ⟨(((((Lib.itoa p.p.g) ++ (([58] : List Nat).map UInt8.ofNat)) ++ (([97, 100, 100, 58] : List Nat).map UInt8.ofNat)) ++ p.p.key) ++ (([58] : List Nat).map UInt8.ofNat)) ++ (Lib.itoa p.p.n)⟩ (by dsimp only [po_one] <;> (exact lenEq (by first | (simp_all [partT, Lib.join, List.intercalate, Lib.verbT] ; done) | (unfold partT ; simp [Lib.join, List.intercalate] ; (try simp_all [Lib.verbT]) ; (try omega))) (partT_len pr1 pr2)))
  refine iI (fun hc4 => ?_) (fun hc4 => ?_)
  refine mI (by (try simp only [List.length_append, List.length_map, List.length_cons, List.length_nil]) ; omega) (mI (by (try simp only [List.length_append, List.length_map, List.length_cons, List.length_nil]) ; omega) (mI (by (try simp only [List.length_append, List.length_map, List.length_cons, List.length_nil]) ; omega) (mI (by simp only [InR] ; omega) (mI (by simp only [InR] ; omega) (mI (rfl) ?_)))))
  refine mI (by (try simp only [List.length_append, List.length_map, List.length_cons, List.length_nil]) ; omega) ?_
  exact fin_one hK ⟨(((((Lib.itoa p.p.g) ++ (([58] : List Nat).map UInt8.ofNat)) ++ (([116, 97, 107, 101, 58] : List Nat).map UInt8.ofNat)) ++ p.p.key) ++ (([58] : List Nat).map UInt8.ofNat)) ++ (Lib.itoa p.p.n)⟩ (by dsimp only [po_one] <;> (exact lenEq (by first | (simp_all [partT, Lib.join, List.intercalate, Lib.verbT] ; done) | (unfold partT ; simp [Lib.join, List.intercalate] ; (try simp_all [Lib.verbT]) ; (try omega))) (partT_len pr1 pr2)))
  refine mI (by (try simp only [List.length_append, List.length_map, List.length_cons, List.length_nil]) ; omega) (mI (by (try simp only [List.length_append, List.length_map, List.length_cons, List.length_nil]) ; omega) ?_)
  exact fin_one hK ⟨(((Lib.itoa p.p.g) ++ (([58] : List Nat).map UInt8.ofNat)) ++ (([101, 114, 97, 115, 101, 58] : List Nat).map UInt8.ofNat)) ++ p.p.key⟩ (by dsimp only [po_one] <;> (exact lenEq (by first | (simp_all [partT, Lib.join, List.intercalate, Lib.verbT] ; done) | (unfold partT ; simp [Lib.join, List.intercalate] ; (try simp_all [Lib.verbT]) ; (try omega))) (partT_len pr1 pr2)))
noncomputable def nat_one := natC nat_said 0 (esOf I_one (spP pre_one out_one)) 51 [(0, 15)]
theorem nat_one_ok : NatsOk Tryd.prog nat_one := natC_ok (natE_pl (f := 51) (k := 0) (cfT_ok nat_said_ok) ft_one_ok (by rfl) (by rfl) vf_one) nat_said_ok
def wordT (k : Int) : List UInt8 := if k = 0 then [105, 110, 118, 111, 107, 101] else if k = 1 then [115, 108, 97, 121] else if k = 2 then [100, 101, 108, 105, 118, 101, 114] else if k = 3 then [100, 114, 111, 112] else if k = 4 then [116, 119, 105, 99, 101] else if k = 5 then [115, 112, 111, 105, 108] else if k = 6 then [116, 105, 99, 107] else if k = 7 then [115, 117, 115, 112, 101, 99, 116] else if k = 8 then [99, 114, 97, 115, 104] else if k = 9 then [114, 101, 115, 116, 97, 114, 116] else if k = 10 then [106, 111, 105, 110] else [108, 101, 97, 118, 101]
def numsT (o : OpR) : List (List UInt8) := if o.kind = 0 then [Lib.itoa o.x, Lib.itoa o.mode] else if o.kind = 1 ∨ o.kind = 7 then [Lib.itoa o.x, Lib.itoa o.y] else if o.kind = 2 ∨ o.kind = 3 ∨ o.kind = 4 then [Lib.itoa o.i] else if o.kind = 5 then [Lib.itoa o.i, Lib.itoa o.at_, Lib.itoa o.mask] else [Lib.itoa o.x]
def lineT (o : OpR) : List UInt8 := wordT o.kind ++ Lib.joinTail [32] (numsT o ++ o.ps.map partT) ++ [10]
theorem drop_step {α : Type} {l : List α} {i : Int} {x : α} (h0 : 0 ≤ i) (hx : l[i.toNat]? = some x) : l.drop i.toNat = x :: l.drop (i + 1).toNat := by
  obtain ⟨h, e⟩ := List.getElem?_eq_some_iff.1 hx
  rw [show (i + 1).toNat = i.toNat + 1 by omega, List.drop_eq_getElem_cons h, e]
theorem drop_out {α : Type} {l : List α} {i : Int} (h : (l.length : Int) ≤ i) : l.drop i.toNat = [] := List.drop_eq_nil_of_le (by omega)
theorem jr_step {ps : List PtR} {i : Int} {x : PtR} {ws r : List (List UInt8)} {s : List UInt8} (h0 : 0 ≤ i) (hx : ps[i.toNat]? = some x) (hs : s = partT x) (h : r = (ws ++ [s]) ++ (ps.drop (i + 1).toNat).map partT) : r = ws ++ (ps.drop i.toNat).map partT := by
  rw [h, drop_step h0 hx, hs]; simp
theorem jt_step {ps : List PtR} {i : Int} {x : PtR} {w r s : List UInt8} (h0 : 0 ≤ i) (hx : ps[i.toNat]? = some x) (hs : s = partT x) (h : r = ((w ++ ([32] : List Nat).map UInt8.ofNat) ++ s) ++ Lib.joinTail [32] ((ps.drop (i + 1).toNat).map partT)) : r = w ++ Lib.joinTail [32] ((ps.drop i.toNat).map partT) := by
  rw [h, drop_step h0 hx, hs]; simp [Lib.joinTail]
theorem out_weak {α : Type} {P Q : α → Prop} {K : α → Bool} (h : (allB fun r => iP (P r) (K r) true) = true) (hw : ∀ r, Q r → P r) : (allB fun r => iP (Q r) (K r) true) = true := allB_mk fun r => iI (fun hz => ifB_use (hw r hz) (allB_ok h r)) (fun _ => rfl)
theorem opR_kind {o : OpR} (h : opR o) : 0 ≤ o.kind ∧ o.kind ≤ 11 := Classical.not_not.1 fun q => opR_no q h
theorem opR_parts {o : OpR} (h : opR o) : ∀ x ∈ o.ps, partR x := by
  unfold opR at h
  rcases h with h | h | h | h | h | h | h | h | h | h | h | h
  · exact fun x hx => (h.2.2.2.2.2.2.2.1.2.2 x hx)
  all_goals
    have e : o.ps = [] := by simp only [h]
    rw [e]; intro x hx; cases hx
theorem opR_pos {o : OpR} (h : opR o) : 0 ≤ o.x ∧ 0 ≤ o.y ∧ 0 ≤ o.i ∧ 0 ≤ o.at_ ∧ 0 ≤ o.mode := by
  unfold opR at h
  rcases h with h | h | h | h | h | h | h | h | h | h | h | h <;> omega
theorem wordT_len (k : Int) : (wordT k).length ≤ 7 := by
  unfold wordT
  repeat' split
  all_goals simp
theorem jtail_len {l : List (List UInt8)} {m : Nat} (h : ∀ x ∈ l, x.length ≤ m) : (Lib.joinTail [32] l).length ≤ (m + 1) * l.length := by
  induction l with
  | nil => simp [Lib.joinTail]
  | cons a r ih =>
    have e := ih fun x hx => h x (List.mem_cons_of_mem _ hx)
    have e2 := h a List.mem_cons_self
    simp only [Lib.joinTail, List.map_cons, List.flatten_cons, List.length_append, List.length_cons, List.length_nil] at e ⊢
    rw [Nat.mul_add]
    omega
theorem numsT_len {o : OpR} (h : opR o) (h2 : rgO o) : (numsT o).length ≤ 3 ∧ ∀ x ∈ numsT o, x.length ≤ 110 := by
  have e := opR_pos h
  unfold rgO I64r at h2
  have e1 := itoaU (z := o.x) e.1 (by omega)
  have e2 := itoaU (z := o.y) e.2.1 (by omega)
  have e3 := itoaU (z := o.i) e.2.2.1 (by omega)
  have e4 := itoaU (z := o.at_) e.2.2.2.1 (by omega)
  have e5 := itoaU (z := o.mode) e.2.2.2.2 (by omega)
  have e6 := itoaU (z := o.mask) h2.2.1.1 (by omega)
  unfold numsT
  repeat' split
  all_goals simp
  all_goals omega
theorem lineT_len {o : OpR} (h : opR o) (h2 : rgO o) (h3 : o.ps.length ≤ 10) : (lineT o).length ≤ 1500 := by
  have e1 := wordT_len o.kind
  have e2 := numsT_len h h2
  have e3 : ∀ x ∈ numsT o ++ o.ps.map partT, x.length ≤ 110 := fun x hx => by
    rcases List.mem_append.1 hx with hx | hx
    · exact e2.2 x hx
    · obtain ⟨y, hy, rfl⟩ := List.mem_map.1 hx
      exact partT_len (opR_parts h y hy) (h2.2.2.2 y hy)
  have e4 := jtail_len e3
  rw [List.length_append, List.length_map] at e4
  have e5 : (110 + 1) * ((numsT o).length + o.ps.length) ≤ 111 * 13 := Nat.mul_le_mul_left _ (by omega)
  unfold lineT
  rw [List.length_append, List.length_append, List.length_cons, List.length_nil]
  omega
theorem line_join {o : OpR} {r ns : List (List UInt8)} {x : List UInt8} (h : r = (x :: ns) ++ o.ps.map partT) (hx : x = wordT o.kind) (hn : ns = numsT o) : Lib.join r [32] ++ [10] = lineT o := by
  rw [h, List.cons_append, Lib.join_cons, hx, hn]
  rfl
theorem app_len {a b c : List UInt8} {n : Nat} (h : a ++ b = c) (h2 : c.length ≤ n) : a.length ≤ n := by
  have e := congrArg List.length h
  rw [List.length_append] at e
  omega
def ft_line : XF := .mk 52 (.one 2) (.aft (.seq (g_ 2 [e_ 0 1 (.box 52 (.t 0)), p_ 1 2 (.mv (.c (.str [])))]) (.pre [.fixc 0 0 0 12] (.seq (g_ 5 [p_ 0 8 (f_ 0 1), r_ 1 9 (l_ 8), c_ 2 10 42 [.t 9], e_ 3 11 (.bsl 9 1 1 [.str []] [(0, 1)] [.t 10]), p_ 4 3 (m_ 11)]) (.seq (.seq (g_ 3 [c_ 0 12 43 [.t 1], p_ 1 13 (k_ 12), p_ 2 14 (.mv (i_ 0))]) (.block 2 (.loop [1, 2, 3, 5, 7, 12, 13, 14, 15, 16, 17, 18, 19, 20, 21, 22, 23, 24, 25, 26, 27, 28, 29, 30, 31, 32, 33, 34, 35, 36, 37, 38, 39, 40, 41, 42, 43, 44, 45, 46, 47, 48, 49, 50, 51] (.seq (g_ 1 [p_ 0 15 (.bin 3 0 (.t 14) (.t 13))]) (.seq (.cond (.t 15) .skip (.exit 2)) (.seq (.block 3 (.seq (g_ 3 [p_ 0 16 (.ixs 1 (.t 12) (.t 14)), r_ 1 17 (l_ 16), p_ 2 5 (m_ 17)]) (g_ 8 [p_ 0 18 (m_ 3), p_ 1 19 (m_ 5), p_ 2 20 (n_ 19), r_ 3 21 (l_ 20), c_ 4 22 40 [.t 21], e_ 5 23 (.bsl 9 1 1 [.str []] [(0, 1)] [.t 22]), e_ 6 24 (.app 9 1 16 (.t 18) (.t 23)), p_ 7 3 (m_ 24)]))) (g_ 2 [p_ 0 25 (.bin 0 0 (.t 14) (i_ 1)), p_ 1 14 (m_ 25)]))))))) (.seq (.seq (g_ 3 [p_ 0 26 (f_ 0 1), r_ 1 27 (l_ 26), p_ 2 28 (.bin 3 4 (.t 27) (i_ 5))]) (.cond (.t 28) (g_ 8 [p_ 0 29 (m_ 3), p_ 1 30 (f_ 6 1), r_ 2 31 (l_ 30), p_ 3 32 (.cnv 4 (.t 31)), c_ 4 33 41 [.t 32, i_ 10], e_ 5 34 (.bsl 9 1 1 [.str []] [(0, 1)] [.t 33]), e_ 6 35 (.app 9 1 16 (.t 29) (.t 34)), p_ 7 3 (m_ 35)]) .skip)) (.seq (.seq (g_ 4 [p_ 0 36 (f_ 8 1), r_ 1 37 (l_ 36), p_ 2 38 (k_ 37), p_ 3 39 (.mv (i_ 0))]) (.block 4 (.pre [.can 0 [3, 37, 38, 39], .upc 0 0 0, .born 3 9 1 (List UInt8) encT, .up 38, .up 39, .can 0 [3, 37, 38, 39]] (.inv 0 (.aft (.seq (g_ 1 [p_ 0 40 (.bin 3 0 (.t 39) (.t 38))]) (.seq (.cond (.t 40) .skip (.exit 4)) (.seq (.block 5 (.seq (g_ 4 [p_ 0 41 (.ixs 5 (.t 37) (.t 39)), r_ 1 42 (.ld true 5 (.t 41)), e_ 2 7 (.al 100 [.int 1 (.ofNat 0), .int 1 (.ofNat 0), .str [], .str [], .int 0 (.ofNat 0)]), e0_ 3 (.st 5 (.t 7) (.t 42))]) (g_ 6 [p_ 0 43 (m_ 3), r_ 1 44 (.ld true 5 (.t 7)), c_ 2 45 44 [.t 44], e_ 3 46 (.bsl 9 1 1 [.str []] [(0, 1)] [.t 45]), e_ 4 47 (.app 9 1 16 (.t 43) (.t 46)), p_ 5 3 (m_ 47)]))) (g_ 2 [p_ 0 48 (.bin 0 0 (.t 39) (i_ 1)), p_ 1 39 (m_ 48)])))) [(0, [.can 0 [3, 37, 38, 39]]), (4, [.can 0 [3]])]))))) (.seq (g_ 4 [p_ 0 49 (m_ 3), c_ 1 50 45 [.t 49, .c (.str [32])], p_ 2 51 (.bin 4 0 (.t 50) (.c (.str [10]))), p_ 3 2 (m_ 51)]) .ret))))))) [(0, [.up 2]), (1, [.up 2])])
theorem ft_line_ok : chkF Tryd.prog 19 ft_line = true := by kernel_rfl
structure A_l_line where
  hp : Value
  ps : List PtR
  ws : List (List UInt8)
  i : Int
structure R_l_line where
  r : List (List UInt8)
def po_l_line (p : A_l_line) (r : R_l_line) : Prop := r.r = p.ws ++ (p.ps.drop p.i.toNat).map partT ∧ r.r.length ≤ 20
noncomputable def I_l_line (p : A_l_line) : IL := ((.cons 39 (.sy (.int 0 p.i)) (.cons 38 (.sy (.int 0 (p.ps.length : Int))) (.cons 37 (.sy (.imm p.hp 5 PtR p.ps encP)) (.cons 3 (.sy (.prow 0 p.ws.length)) .nil)))), (.node .leaf (some (.prow 9 1 (List UInt8) p.ws encT)) .leaf), 1)
noncomputable def out_l_line (p : A_l_line) (K : KC) : Bool := allB fun r : R_l_line => iP (po_l_line p r) (K 4 (.cons 3 (.sy (.prow 0 r.r.length)) .nil) (.node .leaf (some (.prow 9 1 (List UInt8) r.r encT)) .leaf) 1) true
def pre_l_line (p : A_l_line) : Prop := p.ps.length ≤ 10 ∧ 0 ≤ p.i ∧ p.i ≤ (p.ps.length : Int) ∧ (p.ws.length : Int) ≤ 10 + p.i ∧ (∀ x ∈ p.ps, partR x) ∧ ∀ x ∈ p.ps, rgP x
theorem fin_l_line {p : A_l_line} {K : KC} (hK : out_l_line p K = true) (r : R_l_line) (h : po_l_line p r) : K 4 (.cons 3 (.sy (.prow 0 r.r.length)) .nil) (.node .leaf (some (.prow 9 1 (List UInt8) r.r encT)) .leaf) 1 = true := ifB_use h (allB_ok hK r)
noncomputable def sp_l_line (p : A_l_line) (K : KC) : Bool := must (prB (pre_l_line p)) (out_l_line p K)
noncomputable def lp_line : LpF := fun j S M nx K => (Bool.rec (false) (exB fun p : A_l_line => must (prB ((S, M, nx) = I_l_line p)) (sp_l_line p K)) (Nat.beq j 0))
def mu_l_line (p : A_l_line) : Nat := ((p.ps.length : Int) - p.i).toNat
theorem bk_l_line {p q : A_l_line} {K : KC} {s : IL} (hm : mu_l_line q < mu_l_line p) (hp : pre_l_line q) (hK : out_l_line q K = true) (e : s = I_l_line q) : (exB fun q => mP (s = I_l_line q ∧ mu_l_line q < mu_l_line p) (sp_l_line q K)) = true := exB_mk q (mustP ⟨e, hm⟩ (mustP hp hK))
def bd_l_line : XC := (.aft (.seq (g_ 1 [p_ 0 40 (.bin 3 0 (.t 39) (.t 38))]) (.seq (.cond (.t 40) .skip (.exit 4)) (.seq (.block 5 (.seq (g_ 4 [p_ 0 41 (.ixs 5 (.t 37) (.t 39)), r_ 1 42 (.ld true 5 (.t 41)), e_ 2 7 (.al 100 [.int 1 (.ofNat 0), .int 1 (.ofNat 0), .str [], .str [], .int 0 (.ofNat 0)]), e0_ 3 (.st 5 (.t 7) (.t 42))]) (g_ 6 [p_ 0 43 (m_ 3), r_ 1 44 (.ld true 5 (.t 7)), c_ 2 45 44 [.t 44], e_ 3 46 (.bsl 9 1 1 [.str []] [(0, 1)] [.t 45]), e_ 4 47 (.app 9 1 16 (.t 43) (.t 46)), p_ 5 3 (m_ 47)]))) (g_ 2 [p_ 0 48 (.bin 0 0 (.t 39) (i_ 1)), p_ 1 39 (m_ 48)])))) [(0, [.can 0 [3, 37, 38, 39]]), (4, [.can 0 [3]])])
theorem vb_l_line (p : A_l_line) (K : KC) (hpre : pre_l_line p) (hK : out_l_line p K = true) : (codeX (cfT nat_one) lp_line 600 bd_l_line (I_l_line p).1 (I_l_line p).2.1 (I_l_line p).2.2 (fun e S M nx => Nat.casesOn e (exB fun q : A_l_line => must (prB ((S, M, nx) = I_l_line q ∧ mu_l_line q < mu_l_line p)) (sp_l_line q K)) (fun e2 => K (Nat.succ e2) S M nx))) = true := by
  refine Eq.trans (b := (iP (p.i < (p.ps.length : Int)) (mP (0 ≤ p.i ∧ p.i < (p.ps.length : Int)) (allB fun x1 : PtR => iP (p.ps[p.i.toNat]? = some x1) (useC (([.agg [.sy (.int 1 x1.g), .sy (.int 1 x1.k), .sy (.str x1.key), .sy (.str x1.val), .sy (.int 0 x1.n)]], .leaf, 0)) I_said pre_said po_said fun p1 r1 => mP (p.ws.length = p.ws.length) (exB fun m1 : List (List UInt8) => mP (rowsR (m1.map encT) [[.sstr r1.s]]) (mP (limP 16 (p.ws.length + m1.length)) (mP (InR 0 (p.i + (1 : Int))) (exB fun q1 : A_l_line => mP (((.cons 39 (.sy (.int 0 (p.i + (1 : Int)))) (.cons 38 (.sy (.int 0 (p.ps.length : Int))) (.cons 37 (.sy (.imm p.hp 5 PtR p.ps encP)) (.cons 3 (.sy (.prow 0 ((p.ws ++ m1).length))) .nil)))), (.node .leaf (some (.prow 9 1 (List UInt8) (p.ws ++ m1) encT)) .leaf), 1) = I_l_line q1 ∧ mu_l_line q1 < mu_l_line p) (sp_l_line q1 K)))))) true)) (K 4 (.cons 3 (.sy (.prow 0 p.ws.length)) .nil) (.node .leaf (some (.prow 9 1 (List UInt8) p.ws encT)) .leaf) 1))) (by kernel_rfl) ?_
  dsimp only [pre_l_line] at hpre
  obtain ⟨g0, g1, g2, g3, g4, g5⟩ := hpre
  refine iI (fun hc1 => ?_) (fun hc1 => ?_)
  refine mI (by first | omega | (constructor <;> omega)) ?_
  refine allB_mk (fun x1 => ?_)
  refine iI (fun hi2 => ?_) (fun _ => rfl)
  have hg_x1 := g4 _ (List.mem_of_getElem? (by assumption : p.ps[p.i.toNat]? = some x1))
  have hr_x1 := g5 _ (List.mem_of_getElem? (by assumption : p.ps[p.i.toNat]? = some x1))
  refine callPR (⟨x1⟩ : A_said) rfl (by (try dsimp only [pre_said]) ; exact ⟨by assumption, by assumption⟩) fun r1 hi3 => ?_
  dsimp only [po_said] at hi3
  refine mI (rfl) ?_
  refine exB_mk [r1.s] ?_
  refine mI (show rowsR ([r1.s].map encT) [[.sstr r1.s]] from ⟨⟨.inl rfl, trivial⟩, trivial⟩) (mI (by (try dsimp only) ; (first | omega | (simp [limP] <;> omega))) (mI (by simp only [InR] ; omega) ?_))
  exact bk_l_line (q := ⟨p.hp, p.ps, p.ws ++ [r1.s], p.i + (1 : Int)⟩) (by dsimp only [mu_l_line] ; omega) (by dsimp only [pre_l_line] ; exact ⟨g0, by omega, by omega, by simp ; omega, g4, g5⟩) (out_weak hK fun r hz => ⟨jr_step g1 (by assumption) hi3.1 hz.1, hz.2⟩) rfl
  exact fin_l_line hK ⟨p.ws⟩ (by dsimp only [po_l_line] <;> (exact ⟨by rw [drop_out (by omega)] ; simp, by omega⟩))
theorem lo_l_line : LpOk Tryd.prog 52 0 lp_line true 0 bd_l_line := by
  exact lp_of (lf := 600) ts_mix (cfT_ok nat_one_ok) (by rfl) I_l_line mu_l_line sp_l_line (fun b j x h => by cases h) (fun S M nx K h => by obtain ⟨p, h⟩ := exB_ok h; exact ⟨p, (mustP_ok h).1, (mustP_ok h).2⟩) (fun p K h => vb_l_line p K (mustP_ok h).1 (mustP_ok h).2)
structure A_line where
  o : OpR
structure R_line where
  s : List UInt8
def po_line (p : A_line) (r : R_line) : Prop := r.s = lineT p.o ∧ r.s.length ≤ 1500
noncomputable def I_line (p : A_line) : IE := ([.agg [.sy (.int 0 p.o.kind), .sy (.int 0 p.o.x), .sy (.int 0 p.o.y), .sy (.int 0 p.o.i), .sy (.int 0 p.o.at_), .sy (.int 0 p.o.mode), .sy (.int 3 p.o.mask), .sy (.int 1 p.o.grp), .sy (.imm p.o.hp 5 PtR p.o.ps encP)]], .leaf, 0)
noncomputable def out_line (p : A_line) (K : KE) : Bool := allB fun r : R_line => iP (po_line p r) (K (.sy (.str r.s)) .leaf 0) true
def pre_line (p : A_line) : Prop := opR p.o ∧ rgO p.o ∧ p.o.ps.length ≤ 10
theorem fin_line {p : A_line} {K : KE} (hK : out_line p K = true) (r : R_line) (h : po_line p r) : K (.sy (.str r.s)) .leaf 0 = true := ifB_use h (allB_ok hK r)
theorem vf_line (p : A_line) (K : KE) (hpre : pre_line p) (hK : out_line p K = true) : (funE 0 (cfT nat_one) lp_line 600 ft_line (I_line p).1 (I_line p).2.1 (I_line p).2.2 K) = true := by
  refine Eq.trans (b := (iP (p.o.kind = 0) (mP (InR 0 p.o.x) (mP (InR 0 p.o.mode) (exB fun l12 : List (List UInt8) => mP (l12.map encT = [[.sstr (([105, 110, 118, 111, 107, 101] : List Nat).map UInt8.ofNat)], [.sstr (Lib.itoa p.o.x)], [.sstr (Lib.itoa p.o.mode)]]) (useC (((.cons 39 (.sy (.int 0 0)) (.cons 38 (.sy (.int 0 (p.o.ps.length : Int))) (.cons 37 (.sy (.imm p.o.hp 5 PtR p.o.ps encP)) (.cons 3 (.sy (.prow 0 l12.length)) .nil)))), (.node .leaf (some (.prow 9 1 (List UInt8) l12 encT)) .leaf), 1)) I_l_line pre_l_line po_l_line fun p12 r12 => exB fun j12 : List (List UInt8) => mP (r12.r.map encT = j12.map encT) (mP (r12.r.length = j12.length) (mP ((Lib.join j12 (([32] : List Nat).map UInt8.ofNat)).length ≤ 140737488355328) (mP (j12.length ≤ 140737488355328) (mP ((Lib.join j12 (([32] : List Nat).map UInt8.ofNat)).length + (([10] : List Nat).map UInt8.ofNat).length ≤ 9223372036854775807) (K (.sy (.str ((Lib.join j12 (([32] : List Nat).map UInt8.ofNat)) ++ (([10] : List Nat).map UInt8.ofNat)))) .leaf 0))))))))) (iP (p.o.kind = 1) (mP (InR 0 p.o.x) (mP (InR 0 p.o.y) (exB fun l11 : List (List UInt8) => mP (l11.map encT = [[.sstr (([115, 108, 97, 121] : List Nat).map UInt8.ofNat)], [.sstr (Lib.itoa p.o.x)], [.sstr (Lib.itoa p.o.y)]]) (useC (((.cons 39 (.sy (.int 0 0)) (.cons 38 (.sy (.int 0 (p.o.ps.length : Int))) (.cons 37 (.sy (.imm p.o.hp 5 PtR p.o.ps encP)) (.cons 3 (.sy (.prow 0 l11.length)) .nil)))), (.node .leaf (some (.prow 9 1 (List UInt8) l11 encT)) .leaf), 1)) I_l_line pre_l_line po_l_line fun p11 r11 => exB fun j11 : List (List UInt8) => mP (r11.r.map encT = j11.map encT) (mP (r11.r.length = j11.length) (mP ((Lib.join j11 (([32] : List Nat).map UInt8.ofNat)).length ≤ 140737488355328) (mP (j11.length ≤ 140737488355328) (mP ((Lib.join j11 (([32] : List Nat).map UInt8.ofNat)).length + (([10] : List Nat).map UInt8.ofNat).length ≤ 9223372036854775807) (K (.sy (.str ((Lib.join j11 (([32] : List Nat).map UInt8.ofNat)) ++ (([10] : List Nat).map UInt8.ofNat)))) .leaf 0))))))))) (iP (p.o.kind = 2) (mP (InR 0 p.o.i) (exB fun l10 : List (List UInt8) => mP (l10.map encT = [[.sstr (([100, 101, 108, 105, 118, 101, 114] : List Nat).map UInt8.ofNat)], [.sstr (Lib.itoa p.o.i)]]) (useC (((.cons 39 (.sy (.int 0 0)) (.cons 38 (.sy (.int 0 (p.o.ps.length : Int))) (.cons 37 (.sy (.imm p.o.hp 5 PtR p.o.ps encP)) (.cons 3 (.sy (.prow 0 l10.length)) .nil)))), (.node .leaf (some (.prow 9 1 (List UInt8) l10 encT)) .leaf), 1)) I_l_line pre_l_line po_l_line fun p10 r10 => exB fun j10 : List (List UInt8) => mP (r10.r.map encT = j10.map encT) (mP (r10.r.length = j10.length) (mP ((Lib.join j10 (([32] : List Nat).map UInt8.ofNat)).length ≤ 140737488355328) (mP (j10.length ≤ 140737488355328) (mP ((Lib.join j10 (([32] : List Nat).map UInt8.ofNat)).length + (([10] : List Nat).map UInt8.ofNat).length ≤ 9223372036854775807) (K (.sy (.str ((Lib.join j10 (([32] : List Nat).map UInt8.ofNat)) ++ (([10] : List Nat).map UInt8.ofNat)))) .leaf 0)))))))) (iP (p.o.kind = 3) (mP (InR 0 p.o.i) (exB fun l9 : List (List UInt8) => mP (l9.map encT = [[.sstr (([100, 114, 111, 112] : List Nat).map UInt8.ofNat)], [.sstr (Lib.itoa p.o.i)]]) (useC (((.cons 39 (.sy (.int 0 0)) (.cons 38 (.sy (.int 0 (p.o.ps.length : Int))) (.cons 37 (.sy (.imm p.o.hp 5 PtR p.o.ps encP)) (.cons 3 (.sy (.prow 0 l9.length)) .nil)))), (.node .leaf (some (.prow 9 1 (List UInt8) l9 encT)) .leaf), 1)) I_l_line pre_l_line po_l_line fun p9 r9 => exB fun j9 : List (List UInt8) => mP (r9.r.map encT = j9.map encT) (mP (r9.r.length = j9.length) (mP ((Lib.join j9 (([32] : List Nat).map UInt8.ofNat)).length ≤ 140737488355328) (mP (j9.length ≤ 140737488355328) (mP ((Lib.join j9 (([32] : List Nat).map UInt8.ofNat)).length + (([10] : List Nat).map UInt8.ofNat).length ≤ 9223372036854775807) (K (.sy (.str ((Lib.join j9 (([32] : List Nat).map UInt8.ofNat)) ++ (([10] : List Nat).map UInt8.ofNat)))) .leaf 0)))))))) (iP (p.o.kind = 4) (mP (InR 0 p.o.i) (exB fun l8 : List (List UInt8) => mP (l8.map encT = [[.sstr (([116, 119, 105, 99, 101] : List Nat).map UInt8.ofNat)], [.sstr (Lib.itoa p.o.i)]]) (useC (((.cons 39 (.sy (.int 0 0)) (.cons 38 (.sy (.int 0 (p.o.ps.length : Int))) (.cons 37 (.sy (.imm p.o.hp 5 PtR p.o.ps encP)) (.cons 3 (.sy (.prow 0 l8.length)) .nil)))), (.node .leaf (some (.prow 9 1 (List UInt8) l8 encT)) .leaf), 1)) I_l_line pre_l_line po_l_line fun p8 r8 => exB fun j8 : List (List UInt8) => mP (r8.r.map encT = j8.map encT) (mP (r8.r.length = j8.length) (mP ((Lib.join j8 (([32] : List Nat).map UInt8.ofNat)).length ≤ 140737488355328) (mP (j8.length ≤ 140737488355328) (mP ((Lib.join j8 (([32] : List Nat).map UInt8.ofNat)).length + (([10] : List Nat).map UInt8.ofNat).length ≤ 9223372036854775807) (K (.sy (.str ((Lib.join j8 (([32] : List Nat).map UInt8.ofNat)) ++ (([10] : List Nat).map UInt8.ofNat)))) .leaf 0)))))))) (iP (p.o.kind = 5) (mP (InR 0 p.o.i) (mP (InR 0 p.o.at_) (mP (InR 4 p.o.mask) (mP (InR 4 p.o.mask) (exB fun l7 : List (List UInt8) => mP (l7.map encT = [[.sstr (([115, 112, 111, 105, 108] : List Nat).map UInt8.ofNat)], [.sstr (Lib.itoa p.o.i)], [.sstr (Lib.itoa p.o.at_)], [.sstr (Lib.itoa p.o.mask)]]) (useC (((.cons 39 (.sy (.int 0 0)) (.cons 38 (.sy (.int 0 (p.o.ps.length : Int))) (.cons 37 (.sy (.imm p.o.hp 5 PtR p.o.ps encP)) (.cons 3 (.sy (.prow 0 l7.length)) .nil)))), (.node .leaf (some (.prow 9 1 (List UInt8) l7 encT)) .leaf), 1)) I_l_line pre_l_line po_l_line fun p7 r7 => exB fun j7 : List (List UInt8) => mP (r7.r.map encT = j7.map encT) (mP (r7.r.length = j7.length) (mP ((Lib.join j7 (([32] : List Nat).map UInt8.ofNat)).length ≤ 140737488355328) (mP (j7.length ≤ 140737488355328) (mP ((Lib.join j7 (([32] : List Nat).map UInt8.ofNat)).length + (([10] : List Nat).map UInt8.ofNat).length ≤ 9223372036854775807) (K (.sy (.str ((Lib.join j7 (([32] : List Nat).map UInt8.ofNat)) ++ (([10] : List Nat).map UInt8.ofNat)))) .leaf 0))))))))))) (iP (p.o.kind = 6) (mP (InR 0 p.o.x) (exB fun l6 : List (List UInt8) => mP (l6.map encT = [[.sstr (([116, 105, 99, 107] : List Nat).map UInt8.ofNat)], [.sstr (Lib.itoa p.o.x)]]) (useC (((.cons 39 (.sy (.int 0 0)) (.cons 38 (.sy (.int 0 (p.o.ps.length : Int))) (.cons 37 (.sy (.imm p.o.hp 5 PtR p.o.ps encP)) (.cons 3 (.sy (.prow 0 l6.length)) .nil)))), (.node .leaf (some (.prow 9 1 (List UInt8) l6 encT)) .leaf), 1)) I_l_line pre_l_line po_l_line fun p6 r6 => exB fun j6 : List (List UInt8) => mP (r6.r.map encT = j6.map encT) (mP (r6.r.length = j6.length) (mP ((Lib.join j6 (([32] : List Nat).map UInt8.ofNat)).length ≤ 140737488355328) (mP (j6.length ≤ 140737488355328) (mP ((Lib.join j6 (([32] : List Nat).map UInt8.ofNat)).length + (([10] : List Nat).map UInt8.ofNat).length ≤ 9223372036854775807) (K (.sy (.str ((Lib.join j6 (([32] : List Nat).map UInt8.ofNat)) ++ (([10] : List Nat).map UInt8.ofNat)))) .leaf 0)))))))) (iP (p.o.kind = 7) (mP (InR 0 p.o.x) (mP (InR 0 p.o.y) (exB fun l5 : List (List UInt8) => mP (l5.map encT = [[.sstr (([115, 117, 115, 112, 101, 99, 116] : List Nat).map UInt8.ofNat)], [.sstr (Lib.itoa p.o.x)], [.sstr (Lib.itoa p.o.y)]]) (useC (((.cons 39 (.sy (.int 0 0)) (.cons 38 (.sy (.int 0 (p.o.ps.length : Int))) (.cons 37 (.sy (.imm p.o.hp 5 PtR p.o.ps encP)) (.cons 3 (.sy (.prow 0 l5.length)) .nil)))), (.node .leaf (some (.prow 9 1 (List UInt8) l5 encT)) .leaf), 1)) I_l_line pre_l_line po_l_line fun p5 r5 => exB fun j5 : List (List UInt8) => mP (r5.r.map encT = j5.map encT) (mP (r5.r.length = j5.length) (mP ((Lib.join j5 (([32] : List Nat).map UInt8.ofNat)).length ≤ 140737488355328) (mP (j5.length ≤ 140737488355328) (mP ((Lib.join j5 (([32] : List Nat).map UInt8.ofNat)).length + (([10] : List Nat).map UInt8.ofNat).length ≤ 9223372036854775807) (K (.sy (.str ((Lib.join j5 (([32] : List Nat).map UInt8.ofNat)) ++ (([10] : List Nat).map UInt8.ofNat)))) .leaf 0))))))))) (iP (p.o.kind = 8) (mP (InR 0 p.o.x) (exB fun l4 : List (List UInt8) => mP (l4.map encT = [[.sstr (([99, 114, 97, 115, 104] : List Nat).map UInt8.ofNat)], [.sstr (Lib.itoa p.o.x)]]) (useC (((.cons 39 (.sy (.int 0 0)) (.cons 38 (.sy (.int 0 (p.o.ps.length : Int))) (.cons 37 (.sy (.imm p.o.hp 5 PtR p.o.ps encP)) (.cons 3 (.sy (.prow 0 l4.length)) .nil)))), (.node .leaf (some (.prow 9 1 (List UInt8) l4 encT)) .leaf), 1)) I_l_line pre_l_line po_l_line fun p4 r4 => exB fun j4 : List (List UInt8) => mP (r4.r.map encT = j4.map encT) (mP (r4.r.length = j4.length) (mP ((Lib.join j4 (([32] : List Nat).map UInt8.ofNat)).length ≤ 140737488355328) (mP (j4.length ≤ 140737488355328) (mP ((Lib.join j4 (([32] : List Nat).map UInt8.ofNat)).length + (([10] : List Nat).map UInt8.ofNat).length ≤ 9223372036854775807) (K (.sy (.str ((Lib.join j4 (([32] : List Nat).map UInt8.ofNat)) ++ (([10] : List Nat).map UInt8.ofNat)))) .leaf 0)))))))) (iP (p.o.kind = 9) (mP (InR 0 p.o.x) (exB fun l3 : List (List UInt8) => mP (l3.map encT = [[.sstr (([114, 101, 115, 116, 97, 114, 116] : List Nat).map UInt8.ofNat)], [.sstr (Lib.itoa p.o.x)]]) (useC (((.cons 39 (.sy (.int 0 0)) (.cons 38 (.sy (.int 0 (p.o.ps.length : Int))) (.cons 37 (.sy (.imm p.o.hp 5 PtR p.o.ps encP)) (.cons 3 (.sy (.prow 0 l3.length)) .nil)))), (.node .leaf (some (.prow 9 1 (List UInt8) l3 encT)) .leaf), 1)) I_l_line pre_l_line po_l_line fun p3 r3 => exB fun j3 : List (List UInt8) => mP (r3.r.map encT = j3.map encT) (mP (r3.r.length = j3.length) (mP ((Lib.join j3 (([32] : List Nat).map UInt8.ofNat)).length ≤ 140737488355328) (mP (j3.length ≤ 140737488355328) (mP ((Lib.join j3 (([32] : List Nat).map UInt8.ofNat)).length + (([10] : List Nat).map UInt8.ofNat).length ≤ 9223372036854775807) (K (.sy (.str ((Lib.join j3 (([32] : List Nat).map UInt8.ofNat)) ++ (([10] : List Nat).map UInt8.ofNat)))) .leaf 0)))))))) (iP (p.o.kind = 10) (mP (InR 0 p.o.x) (exB fun l2 : List (List UInt8) => mP (l2.map encT = [[.sstr (([106, 111, 105, 110] : List Nat).map UInt8.ofNat)], [.sstr (Lib.itoa p.o.x)]]) (useC (((.cons 39 (.sy (.int 0 0)) (.cons 38 (.sy (.int 0 (p.o.ps.length : Int))) (.cons 37 (.sy (.imm p.o.hp 5 PtR p.o.ps encP)) (.cons 3 (.sy (.prow 0 l2.length)) .nil)))), (.node .leaf (some (.prow 9 1 (List UInt8) l2 encT)) .leaf), 1)) I_l_line pre_l_line po_l_line fun p2 r2 => exB fun j2 : List (List UInt8) => mP (r2.r.map encT = j2.map encT) (mP (r2.r.length = j2.length) (mP ((Lib.join j2 (([32] : List Nat).map UInt8.ofNat)).length ≤ 140737488355328) (mP (j2.length ≤ 140737488355328) (mP ((Lib.join j2 (([32] : List Nat).map UInt8.ofNat)).length + (([10] : List Nat).map UInt8.ofNat).length ≤ 9223372036854775807) (K (.sy (.str ((Lib.join j2 (([32] : List Nat).map UInt8.ofNat)) ++ (([10] : List Nat).map UInt8.ofNat)))) .leaf 0)))))))) (iP (p.o.kind = 11) (mP (InR 0 p.o.x) (exB fun l1 : List (List UInt8) => mP (l1.map encT = [[.sstr (([108, 101, 97, 118, 101] : List Nat).map UInt8.ofNat)], [.sstr (Lib.itoa p.o.x)]]) (useC (((.cons 39 (.sy (.int 0 0)) (.cons 38 (.sy (.int 0 (p.o.ps.length : Int))) (.cons 37 (.sy (.imm p.o.hp 5 PtR p.o.ps encP)) (.cons 3 (.sy (.prow 0 l1.length)) .nil)))), (.node .leaf (some (.prow 9 1 (List UInt8) l1 encT)) .leaf), 1)) I_l_line pre_l_line po_l_line fun p1 r1 => exB fun j1 : List (List UInt8) => mP (r1.r.map encT = j1.map encT) (mP (r1.r.length = j1.length) (mP ((Lib.join j1 (([32] : List Nat).map UInt8.ofNat)).length ≤ 140737488355328) (mP (j1.length ≤ 140737488355328) (mP ((Lib.join j1 (([32] : List Nat).map UInt8.ofNat)).length + (([10] : List Nat).map UInt8.ofNat).length ≤ 9223372036854775807) (K (.sy (.str ((Lib.join j1 (([32] : List Nat).map UInt8.ofNat)) ++ (([10] : List Nat).map UInt8.ofNat)))) .leaf 0)))))))) (mP (False) (true))))))))))))))) (by kernel_rfl) ?_
  dsimp only [pre_line] at hpre
  obtain ⟨q1, q2, q3⟩ := hpre
  have q4 := opR_kind q1
  have q5 := opR_pos q1
  have q6 := lineT_len q1 q2 q3
  have q7 := opR_parts q1
  have q8 := q2.2.2.2
  unfold rgO I64r at q2
  have q9 := itoaU (z := p.o.x) q5.1 (by omega)
  have q10 := itoaU (z := p.o.y) q5.2.1 (by omega)
  have q11 := itoaU (z := p.o.i) q5.2.2.1 (by omega)
  have q12 := itoaU (z := p.o.at_) q5.2.2.2.1 (by omega)
  have q13 := itoaU (z := p.o.mode) q5.2.2.2.2 (by omega)
  have q14 := itoaU (z := p.o.mask) q2.2.1.1 (by omega)
  refine iI (fun hc1 => ?_) (fun hc1 => ?_)
  refine mI (by simp only [InR] ; omega) (mI (by simp only [InR] ; omega) ?_)
  refine exB_mk [(([105, 110, 118, 111, 107, 101] : List Nat).map UInt8.ofNat), (Lib.itoa p.o.x), (Lib.itoa p.o.mode)] ?_
  refine mI (rfl) ?_
  refine callPR (⟨p.o.hp, p.o.ps, [(([105, 110, 118, 111, 107, 101] : List Nat).map UInt8.ofNat), (Lib.itoa p.o.x), (Lib.itoa p.o.mode)], (0 : Int)⟩ : A_l_line) rfl (by (try dsimp only [pre_l_line]) ; exact ⟨q3, by omega, by omega, by simp, q7, q8⟩) fun r12 hi2 => ?_
  dsimp only [po_l_line] at hi2
  refine exB_mk r12.r ?_
  refine mI (rfl) (mI (rfl) (mI (by (try dsimp only) ; exact Nat.le_trans (app_len (b := [10]) (by have e9 := hi2.1 ; simp only [Int.toNat_zero, List.drop_zero] at e9 ; exact line_join e9 (by (first | simp [wordT, hkd] | (simp_all [wordT] ; done))) (by (first | simp [numsT, hkd] | (simp_all [numsT] ; done)))) q6) (by decide)) (mI (by (try dsimp only) ; omega) (mI (by (try dsimp only) ; have e8 := app_len (b := [10]) (by have e9 := hi2.1 ; simp only [Int.toNat_zero, List.drop_zero] at e9 ; exact line_join e9 (by (first | simp [wordT, hkd] | (simp_all [wordT] ; done))) (by (first | simp [numsT, hkd] | (simp_all [numsT] ; done)))) q6 ; simp ; omega) ?_))))
  exact fin_line hK ⟨(Lib.join r12.r (([32] : List Nat).map UInt8.ofNat)) ++ (([10] : List Nat).map UInt8.ofNat)⟩ (by dsimp only [po_line] <;> (exact lenEq (by have e9 := hi2.1 ; simp only [Int.toNat_zero, List.drop_zero] at e9 ; exact line_join e9 (by (first | simp [wordT, hkd] | (simp_all [wordT] ; done))) (by (first | simp [numsT, hkd] | (simp_all [numsT] ; done)))) q6))
  refine iI (fun hc3 => ?_) (fun hc3 => ?_)
  refine mI (by simp only [InR] ; omega) (mI (by simp only [InR] ; omega) ?_)
  refine exB_mk [(([115, 108, 97, 121] : List Nat).map UInt8.ofNat), (Lib.itoa p.o.x), (Lib.itoa p.o.y)] ?_
  refine mI (rfl) ?_
  refine callPR (⟨p.o.hp, p.o.ps, [(([115, 108, 97, 121] : List Nat).map UInt8.ofNat), (Lib.itoa p.o.x), (Lib.itoa p.o.y)], (0 : Int)⟩ : A_l_line) rfl (by (try dsimp only [pre_l_line]) ; exact ⟨q3, by omega, by omega, by simp, q7, q8⟩) fun r11 hi4 => ?_
  dsimp only [po_l_line] at hi4
  refine exB_mk r11.r ?_
  refine mI (rfl) (mI (rfl) (mI (by (try dsimp only) ; exact Nat.le_trans (app_len (b := [10]) (by have e9 := hi4.1 ; simp only [Int.toNat_zero, List.drop_zero] at e9 ; exact line_join e9 (by (first | simp [wordT, hkd] | (simp_all [wordT] ; done))) (by (first | simp [numsT, hkd] | (simp_all [numsT] ; done)))) q6) (by decide)) (mI (by (try dsimp only) ; omega) (mI (by (try dsimp only) ; have e8 := app_len (b := [10]) (by have e9 := hi4.1 ; simp only [Int.toNat_zero, List.drop_zero] at e9 ; exact line_join e9 (by (first | simp [wordT, hkd] | (simp_all [wordT] ; done))) (by (first | simp [numsT, hkd] | (simp_all [numsT] ; done)))) q6 ; simp ; omega) ?_))))
  exact fin_line hK ⟨(Lib.join r11.r (([32] : List Nat).map UInt8.ofNat)) ++ (([10] : List Nat).map UInt8.ofNat)⟩ (by dsimp only [po_line] <;> (exact lenEq (by have e9 := hi4.1 ; simp only [Int.toNat_zero, List.drop_zero] at e9 ; exact line_join e9 (by (first | simp [wordT, hkd] | (simp_all [wordT] ; done))) (by (first | simp [numsT, hkd] | (simp_all [numsT] ; done)))) q6))
  refine iI (fun hc5 => ?_) (fun hc5 => ?_)
  refine mI (by simp only [InR] ; omega) ?_
  refine exB_mk [(([100, 101, 108, 105, 118, 101, 114] : List Nat).map UInt8.ofNat), (Lib.itoa p.o.i)] ?_
  refine mI (rfl) ?_
  refine callPR (⟨p.o.hp, p.o.ps, [(([100, 101, 108, 105, 118, 101, 114] : List Nat).map UInt8.ofNat), (Lib.itoa p.o.i)], (0 : Int)⟩ : A_l_line) rfl (by (try dsimp only [pre_l_line]) ; exact ⟨q3, by omega, by omega, by simp, q7, q8⟩) fun r10 hi6 => ?_
  dsimp only [po_l_line] at hi6
  refine exB_mk r10.r ?_
  refine mI (rfl) (mI (rfl) (mI (by (try dsimp only) ; exact Nat.le_trans (app_len (b := [10]) (by have e9 := hi6.1 ; simp only [Int.toNat_zero, List.drop_zero] at e9 ; exact line_join e9 (by (first | simp [wordT, hkd] | (simp_all [wordT] ; done))) (by (first | simp [numsT, hkd] | (simp_all [numsT] ; done)))) q6) (by decide)) (mI (by (try dsimp only) ; omega) (mI (by (try dsimp only) ; have e8 := app_len (b := [10]) (by have e9 := hi6.1 ; simp only [Int.toNat_zero, List.drop_zero] at e9 ; exact line_join e9 (by (first | simp [wordT, hkd] | (simp_all [wordT] ; done))) (by (first | simp [numsT, hkd] | (simp_all [numsT] ; done)))) q6 ; simp ; omega) ?_))))
  exact fin_line hK ⟨(Lib.join r10.r (([32] : List Nat).map UInt8.ofNat)) ++ (([10] : List Nat).map UInt8.ofNat)⟩ (by dsimp only [po_line] <;> (exact lenEq (by have e9 := hi6.1 ; simp only [Int.toNat_zero, List.drop_zero] at e9 ; exact line_join e9 (by (first | simp [wordT, hkd] | (simp_all [wordT] ; done))) (by (first | simp [numsT, hkd] | (simp_all [numsT] ; done)))) q6))
  refine iI (fun hc7 => ?_) (fun hc7 => ?_)
  refine mI (by simp only [InR] ; omega) ?_
  refine exB_mk [(([100, 114, 111, 112] : List Nat).map UInt8.ofNat), (Lib.itoa p.o.i)] ?_
  refine mI (rfl) ?_
  refine callPR (⟨p.o.hp, p.o.ps, [(([100, 114, 111, 112] : List Nat).map UInt8.ofNat), (Lib.itoa p.o.i)], (0 : Int)⟩ : A_l_line) rfl (by (try dsimp only [pre_l_line]) ; exact ⟨q3, by omega, by omega, by simp, q7, q8⟩) fun r9 hi8 => ?_
  dsimp only [po_l_line] at hi8
  refine exB_mk r9.r ?_
  refine mI (rfl) (mI (rfl) (mI (by (try dsimp only) ; exact Nat.le_trans (app_len (b := [10]) (by have e9 := hi8.1 ; simp only [Int.toNat_zero, List.drop_zero] at e9 ; exact line_join e9 (by (first | simp [wordT, hkd] | (simp_all [wordT] ; done))) (by (first | simp [numsT, hkd] | (simp_all [numsT] ; done)))) q6) (by decide)) (mI (by (try dsimp only) ; omega) (mI (by (try dsimp only) ; have e8 := app_len (b := [10]) (by have e9 := hi8.1 ; simp only [Int.toNat_zero, List.drop_zero] at e9 ; exact line_join e9 (by (first | simp [wordT, hkd] | (simp_all [wordT] ; done))) (by (first | simp [numsT, hkd] | (simp_all [numsT] ; done)))) q6 ; simp ; omega) ?_))))
  exact fin_line hK ⟨(Lib.join r9.r (([32] : List Nat).map UInt8.ofNat)) ++ (([10] : List Nat).map UInt8.ofNat)⟩ (by dsimp only [po_line] <;> (exact lenEq (by have e9 := hi8.1 ; simp only [Int.toNat_zero, List.drop_zero] at e9 ; exact line_join e9 (by (first | simp [wordT, hkd] | (simp_all [wordT] ; done))) (by (first | simp [numsT, hkd] | (simp_all [numsT] ; done)))) q6))
  refine iI (fun hc9 => ?_) (fun hc9 => ?_)
  refine mI (by simp only [InR] ; omega) ?_
  refine exB_mk [(([116, 119, 105, 99, 101] : List Nat).map UInt8.ofNat), (Lib.itoa p.o.i)] ?_
  refine mI (rfl) ?_
  refine callPR (⟨p.o.hp, p.o.ps, [(([116, 119, 105, 99, 101] : List Nat).map UInt8.ofNat), (Lib.itoa p.o.i)], (0 : Int)⟩ : A_l_line) rfl (by (try dsimp only [pre_l_line]) ; exact ⟨q3, by omega, by omega, by simp, q7, q8⟩) fun r8 hi10 => ?_
  dsimp only [po_l_line] at hi10
  refine exB_mk r8.r ?_
  refine mI (rfl) (mI (rfl) (mI (by (try dsimp only) ; exact Nat.le_trans (app_len (b := [10]) (by have e9 := hi10.1 ; simp only [Int.toNat_zero, List.drop_zero] at e9 ; exact line_join e9 (by (first | simp [wordT, hkd] | (simp_all [wordT] ; done))) (by (first | simp [numsT, hkd] | (simp_all [numsT] ; done)))) q6) (by decide)) (mI (by (try dsimp only) ; omega) (mI (by (try dsimp only) ; have e8 := app_len (b := [10]) (by have e9 := hi10.1 ; simp only [Int.toNat_zero, List.drop_zero] at e9 ; exact line_join e9 (by (first | simp [wordT, hkd] | (simp_all [wordT] ; done))) (by (first | simp [numsT, hkd] | (simp_all [numsT] ; done)))) q6 ; simp ; omega) ?_))))
  exact fin_line hK ⟨(Lib.join r8.r (([32] : List Nat).map UInt8.ofNat)) ++ (([10] : List Nat).map UInt8.ofNat)⟩ (by dsimp only [po_line] <;> (exact lenEq (by have e9 := hi10.1 ; simp only [Int.toNat_zero, List.drop_zero] at e9 ; exact line_join e9 (by (first | simp [wordT, hkd] | (simp_all [wordT] ; done))) (by (first | simp [numsT, hkd] | (simp_all [numsT] ; done)))) q6))
  refine iI (fun hc11 => ?_) (fun hc11 => ?_)
  refine mI (by simp only [InR] ; omega) (mI (by simp only [InR] ; omega) (mI (by simp only [InR] ; omega) (mI (by simp only [InR] ; omega) ?_)))
  refine exB_mk [(([115, 112, 111, 105, 108] : List Nat).map UInt8.ofNat), (Lib.itoa p.o.i), (Lib.itoa p.o.at_), (Lib.itoa p.o.mask)] ?_
  refine mI (rfl) ?_
  refine callPR (⟨p.o.hp, p.o.ps, [(([115, 112, 111, 105, 108] : List Nat).map UInt8.ofNat), (Lib.itoa p.o.i), (Lib.itoa p.o.at_), (Lib.itoa p.o.mask)], (0 : Int)⟩ : A_l_line) rfl (by (try dsimp only [pre_l_line]) ; exact ⟨q3, by omega, by omega, by simp, q7, q8⟩) fun r7 hi12 => ?_
  dsimp only [po_l_line] at hi12
  refine exB_mk r7.r ?_
  refine mI (rfl) (mI (rfl) (mI (by (try dsimp only) ; exact Nat.le_trans (app_len (b := [10]) (by have e9 := hi12.1 ; simp only [Int.toNat_zero, List.drop_zero] at e9 ; exact line_join e9 (by (first | simp [wordT, hkd] | (simp_all [wordT] ; done))) (by (first | simp [numsT, hkd] | (simp_all [numsT] ; done)))) q6) (by decide)) (mI (by (try dsimp only) ; omega) (mI (by (try dsimp only) ; have e8 := app_len (b := [10]) (by have e9 := hi12.1 ; simp only [Int.toNat_zero, List.drop_zero] at e9 ; exact line_join e9 (by (first | simp [wordT, hkd] | (simp_all [wordT] ; done))) (by (first | simp [numsT, hkd] | (simp_all [numsT] ; done)))) q6 ; simp ; omega) ?_))))
  exact fin_line hK ⟨(Lib.join r7.r (([32] : List Nat).map UInt8.ofNat)) ++ (([10] : List Nat).map UInt8.ofNat)⟩ (by dsimp only [po_line] <;> (exact lenEq (by have e9 := hi12.1 ; simp only [Int.toNat_zero, List.drop_zero] at e9 ; exact line_join e9 (by (first | simp [wordT, hkd] | (simp_all [wordT] ; done))) (by (first | simp [numsT, hkd] | (simp_all [numsT] ; done)))) q6))
  refine iI (fun hc13 => ?_) (fun hc13 => ?_)
  refine mI (by simp only [InR] ; omega) ?_
  refine exB_mk [(([116, 105, 99, 107] : List Nat).map UInt8.ofNat), (Lib.itoa p.o.x)] ?_
  refine mI (rfl) ?_
  refine callPR (⟨p.o.hp, p.o.ps, [(([116, 105, 99, 107] : List Nat).map UInt8.ofNat), (Lib.itoa p.o.x)], (0 : Int)⟩ : A_l_line) rfl (by (try dsimp only [pre_l_line]) ; exact ⟨q3, by omega, by omega, by simp, q7, q8⟩) fun r6 hi14 => ?_
  dsimp only [po_l_line] at hi14
  refine exB_mk r6.r ?_
  refine mI (rfl) (mI (rfl) (mI (by (try dsimp only) ; exact Nat.le_trans (app_len (b := [10]) (by have e9 := hi14.1 ; simp only [Int.toNat_zero, List.drop_zero] at e9 ; exact line_join e9 (by (first | simp [wordT, hkd] | (simp_all [wordT] ; done))) (by (first | simp [numsT, hkd] | (simp_all [numsT] ; done)))) q6) (by decide)) (mI (by (try dsimp only) ; omega) (mI (by (try dsimp only) ; have e8 := app_len (b := [10]) (by have e9 := hi14.1 ; simp only [Int.toNat_zero, List.drop_zero] at e9 ; exact line_join e9 (by (first | simp [wordT, hkd] | (simp_all [wordT] ; done))) (by (first | simp [numsT, hkd] | (simp_all [numsT] ; done)))) q6 ; simp ; omega) ?_))))
  exact fin_line hK ⟨(Lib.join r6.r (([32] : List Nat).map UInt8.ofNat)) ++ (([10] : List Nat).map UInt8.ofNat)⟩ (by dsimp only [po_line] <;> (exact lenEq (by have e9 := hi14.1 ; simp only [Int.toNat_zero, List.drop_zero] at e9 ; exact line_join e9 (by (first | simp [wordT, hkd] | (simp_all [wordT] ; done))) (by (first | simp [numsT, hkd] | (simp_all [numsT] ; done)))) q6))
  refine iI (fun hc15 => ?_) (fun hc15 => ?_)
  refine mI (by simp only [InR] ; omega) (mI (by simp only [InR] ; omega) ?_)
  refine exB_mk [(([115, 117, 115, 112, 101, 99, 116] : List Nat).map UInt8.ofNat), (Lib.itoa p.o.x), (Lib.itoa p.o.y)] ?_
  refine mI (rfl) ?_
  refine callPR (⟨p.o.hp, p.o.ps, [(([115, 117, 115, 112, 101, 99, 116] : List Nat).map UInt8.ofNat), (Lib.itoa p.o.x), (Lib.itoa p.o.y)], (0 : Int)⟩ : A_l_line) rfl (by (try dsimp only [pre_l_line]) ; exact ⟨q3, by omega, by omega, by simp, q7, q8⟩) fun r5 hi16 => ?_
  dsimp only [po_l_line] at hi16
  refine exB_mk r5.r ?_
  refine mI (rfl) (mI (rfl) (mI (by (try dsimp only) ; exact Nat.le_trans (app_len (b := [10]) (by have e9 := hi16.1 ; simp only [Int.toNat_zero, List.drop_zero] at e9 ; exact line_join e9 (by (first | simp [wordT, hkd] | (simp_all [wordT] ; done))) (by (first | simp [numsT, hkd] | (simp_all [numsT] ; done)))) q6) (by decide)) (mI (by (try dsimp only) ; omega) (mI (by (try dsimp only) ; have e8 := app_len (b := [10]) (by have e9 := hi16.1 ; simp only [Int.toNat_zero, List.drop_zero] at e9 ; exact line_join e9 (by (first | simp [wordT, hkd] | (simp_all [wordT] ; done))) (by (first | simp [numsT, hkd] | (simp_all [numsT] ; done)))) q6 ; simp ; omega) ?_))))
  exact fin_line hK ⟨(Lib.join r5.r (([32] : List Nat).map UInt8.ofNat)) ++ (([10] : List Nat).map UInt8.ofNat)⟩ (by dsimp only [po_line] <;> (exact lenEq (by have e9 := hi16.1 ; simp only [Int.toNat_zero, List.drop_zero] at e9 ; exact line_join e9 (by (first | simp [wordT, hkd] | (simp_all [wordT] ; done))) (by (first | simp [numsT, hkd] | (simp_all [numsT] ; done)))) q6))
  refine iI (fun hc17 => ?_) (fun hc17 => ?_)
  refine mI (by simp only [InR] ; omega) ?_
  refine exB_mk [(([99, 114, 97, 115, 104] : List Nat).map UInt8.ofNat), (Lib.itoa p.o.x)] ?_
  refine mI (rfl) ?_
  refine callPR (⟨p.o.hp, p.o.ps, [(([99, 114, 97, 115, 104] : List Nat).map UInt8.ofNat), (Lib.itoa p.o.x)], (0 : Int)⟩ : A_l_line) rfl (by (try dsimp only [pre_l_line]) ; exact ⟨q3, by omega, by omega, by simp, q7, q8⟩) fun r4 hi18 => ?_
  dsimp only [po_l_line] at hi18
  refine exB_mk r4.r ?_
  refine mI (rfl) (mI (rfl) (mI (by (try dsimp only) ; exact Nat.le_trans (app_len (b := [10]) (by have e9 := hi18.1 ; simp only [Int.toNat_zero, List.drop_zero] at e9 ; exact line_join e9 (by (first | simp [wordT, hkd] | (simp_all [wordT] ; done))) (by (first | simp [numsT, hkd] | (simp_all [numsT] ; done)))) q6) (by decide)) (mI (by (try dsimp only) ; omega) (mI (by (try dsimp only) ; have e8 := app_len (b := [10]) (by have e9 := hi18.1 ; simp only [Int.toNat_zero, List.drop_zero] at e9 ; exact line_join e9 (by (first | simp [wordT, hkd] | (simp_all [wordT] ; done))) (by (first | simp [numsT, hkd] | (simp_all [numsT] ; done)))) q6 ; simp ; omega) ?_))))
  exact fin_line hK ⟨(Lib.join r4.r (([32] : List Nat).map UInt8.ofNat)) ++ (([10] : List Nat).map UInt8.ofNat)⟩ (by dsimp only [po_line] <;> (exact lenEq (by have e9 := hi18.1 ; simp only [Int.toNat_zero, List.drop_zero] at e9 ; exact line_join e9 (by (first | simp [wordT, hkd] | (simp_all [wordT] ; done))) (by (first | simp [numsT, hkd] | (simp_all [numsT] ; done)))) q6))
  refine iI (fun hc19 => ?_) (fun hc19 => ?_)
  refine mI (by simp only [InR] ; omega) ?_
  refine exB_mk [(([114, 101, 115, 116, 97, 114, 116] : List Nat).map UInt8.ofNat), (Lib.itoa p.o.x)] ?_
  refine mI (rfl) ?_
  refine callPR (⟨p.o.hp, p.o.ps, [(([114, 101, 115, 116, 97, 114, 116] : List Nat).map UInt8.ofNat), (Lib.itoa p.o.x)], (0 : Int)⟩ : A_l_line) rfl (by (try dsimp only [pre_l_line]) ; exact ⟨q3, by omega, by omega, by simp, q7, q8⟩) fun r3 hi20 => ?_
  dsimp only [po_l_line] at hi20
  refine exB_mk r3.r ?_
  refine mI (rfl) (mI (rfl) (mI (by (try dsimp only) ; exact Nat.le_trans (app_len (b := [10]) (by have e9 := hi20.1 ; simp only [Int.toNat_zero, List.drop_zero] at e9 ; exact line_join e9 (by (first | simp [wordT, hkd] | (simp_all [wordT] ; done))) (by (first | simp [numsT, hkd] | (simp_all [numsT] ; done)))) q6) (by decide)) (mI (by (try dsimp only) ; omega) (mI (by (try dsimp only) ; have e8 := app_len (b := [10]) (by have e9 := hi20.1 ; simp only [Int.toNat_zero, List.drop_zero] at e9 ; exact line_join e9 (by (first | simp [wordT, hkd] | (simp_all [wordT] ; done))) (by (first | simp [numsT, hkd] | (simp_all [numsT] ; done)))) q6 ; simp ; omega) ?_))))
  exact fin_line hK ⟨(Lib.join r3.r (([32] : List Nat).map UInt8.ofNat)) ++ (([10] : List Nat).map UInt8.ofNat)⟩ (by dsimp only [po_line] <;> (exact lenEq (by have e9 := hi20.1 ; simp only [Int.toNat_zero, List.drop_zero] at e9 ; exact line_join e9 (by (first | simp [wordT, hkd] | (simp_all [wordT] ; done))) (by (first | simp [numsT, hkd] | (simp_all [numsT] ; done)))) q6))
  refine iI (fun hc21 => ?_) (fun hc21 => ?_)
  refine mI (by simp only [InR] ; omega) ?_
  refine exB_mk [(([106, 111, 105, 110] : List Nat).map UInt8.ofNat), (Lib.itoa p.o.x)] ?_
  refine mI (rfl) ?_
  refine callPR (⟨p.o.hp, p.o.ps, [(([106, 111, 105, 110] : List Nat).map UInt8.ofNat), (Lib.itoa p.o.x)], (0 : Int)⟩ : A_l_line) rfl (by (try dsimp only [pre_l_line]) ; exact ⟨q3, by omega, by omega, by simp, q7, q8⟩) fun r2 hi22 => ?_
  dsimp only [po_l_line] at hi22
  refine exB_mk r2.r ?_
  refine mI (rfl) (mI (rfl) (mI (by (try dsimp only) ; exact Nat.le_trans (app_len (b := [10]) (by have e9 := hi22.1 ; simp only [Int.toNat_zero, List.drop_zero] at e9 ; exact line_join e9 (by (first | simp [wordT, hkd] | (simp_all [wordT] ; done))) (by (first | simp [numsT, hkd] | (simp_all [numsT] ; done)))) q6) (by decide)) (mI (by (try dsimp only) ; omega) (mI (by (try dsimp only) ; have e8 := app_len (b := [10]) (by have e9 := hi22.1 ; simp only [Int.toNat_zero, List.drop_zero] at e9 ; exact line_join e9 (by (first | simp [wordT, hkd] | (simp_all [wordT] ; done))) (by (first | simp [numsT, hkd] | (simp_all [numsT] ; done)))) q6 ; simp ; omega) ?_))))
  exact fin_line hK ⟨(Lib.join r2.r (([32] : List Nat).map UInt8.ofNat)) ++ (([10] : List Nat).map UInt8.ofNat)⟩ (by dsimp only [po_line] <;> (exact lenEq (by have e9 := hi22.1 ; simp only [Int.toNat_zero, List.drop_zero] at e9 ; exact line_join e9 (by (first | simp [wordT, hkd] | (simp_all [wordT] ; done))) (by (first | simp [numsT, hkd] | (simp_all [numsT] ; done)))) q6))
  refine iI (fun hc23 => ?_) (fun hc23 => ?_)
  refine mI (by simp only [InR] ; omega) ?_
  refine exB_mk [(([108, 101, 97, 118, 101] : List Nat).map UInt8.ofNat), (Lib.itoa p.o.x)] ?_
  refine mI (rfl) ?_
  refine callPR (⟨p.o.hp, p.o.ps, [(([108, 101, 97, 118, 101] : List Nat).map UInt8.ofNat), (Lib.itoa p.o.x)], (0 : Int)⟩ : A_l_line) rfl (by (try dsimp only [pre_l_line]) ; exact ⟨q3, by omega, by omega, by simp, q7, q8⟩) fun r1 hi24 => ?_
  dsimp only [po_l_line] at hi24
  refine exB_mk r1.r ?_
  refine mI (rfl) (mI (rfl) (mI (by (try dsimp only) ; exact Nat.le_trans (app_len (b := [10]) (by have e9 := hi24.1 ; simp only [Int.toNat_zero, List.drop_zero] at e9 ; exact line_join e9 (by (first | simp [wordT, hkd] | (simp_all [wordT] ; done))) (by (first | simp [numsT, hkd] | (simp_all [numsT] ; done)))) q6) (by decide)) (mI (by (try dsimp only) ; omega) (mI (by (try dsimp only) ; have e8 := app_len (b := [10]) (by have e9 := hi24.1 ; simp only [Int.toNat_zero, List.drop_zero] at e9 ; exact line_join e9 (by (first | simp [wordT, hkd] | (simp_all [wordT] ; done))) (by (first | simp [numsT, hkd] | (simp_all [numsT] ; done)))) q6 ; simp ; omega) ?_))))
  exact fin_line hK ⟨(Lib.join r1.r (([32] : List Nat).map UInt8.ofNat)) ++ (([10] : List Nat).map UInt8.ofNat)⟩ (by dsimp only [po_line] <;> (exact lenEq (by have e9 := hi24.1 ; simp only [Int.toNat_zero, List.drop_zero] at e9 ; exact line_join e9 (by (first | simp [wordT, hkd] | (simp_all [wordT] ; done))) (by (first | simp [numsT, hkd] | (simp_all [numsT] ; done)))) q6))
  refine mI (by omega) ?_
  rfl
noncomputable def nat_line := natC nat_one 0 (esOf I_line (spP pre_line out_line)) 19 [(0, 15)]
theorem nat_line_ok : NatsOk Tryd.prog nat_line := natC_ok (natE_said (f := 19) (k := 0) (lp := lp_line) (lf := 600) ts_mix (cfT_ok nat_one_ok) ft_line_ok (by rfl) (fun b j x h => (mem_step lo_l_line (fun h => (by cases h)) h)) fun p K h => vf_line p K (mustP_ok h).1 (mustP_ok h).2) nat_one_ok
def ft_rline : XF := .mk 47 (.one 2) (.aft (.seq (g_ 2 [e_ 0 1 (.box 69 (.t 0)), p_ 1 2 (.mv (.c (.str [])))]) (.pre [.fixc 0 0 0 12] (.seq (g_ 8 [p_ 0 8 (f_ 0 1), r_ 1 9 (l_ 8), c_ 2 10 49 [.t 9], p_ 3 7 (m_ 10), p_ 4 11 (.ext 0 (.t 7)), p_ 5 12 (.ext 1 (.t 7)), p_ 6 3 (m_ 11), p_ 7 4 (m_ 12)]) (.seq (.seq (g_ 1 [p_ 0 5 (.mv (i_ 0))]) (.block 2 (.loop [1, 2, 3, 4, 5, 6, 13, 14, 15, 16, 17, 18, 19, 20, 21, 22, 23, 24, 25, 26, 27, 28, 29, 30, 31, 32, 33, 34, 35, 36, 37, 38, 39, 40, 41, 42, 43, 44, 45, 46] (.seq (.seq (g_ 4 [p_ 0 13 (m_ 5), p_ 1 14 (m_ 4), p_ 2 15 (.len 0 (.t 14)), p_ 3 16 (.bin 3 0 (.t 13) (.t 15))]) (.cond (.t 16) .skip (.exit 2))) (.seq (.block 3 (h_ 11 [p_ 0 19 (m_ 3), p_ 1 20 (.bin 4 0 (.t 19) (.c (.str [32]))), r_ 2 21 (.ld true 9 (.t 1)), p_ 3 22 (m_ 4), p_ 4 23 (m_ 5), p_ 5 24 (.six (.t 22) (.t 23)), c_ 6 25 50 [.t 21, .t 24], p_ 7 26 (.cnv 4 (.t 25)), c_ 8 27 47 [.t 26], p_ 9 28 (.bin 4 0 (.t 20) (.t 27)), p_ 10 3 (m_ 28)])) (g_ 3 [p_ 0 17 (m_ 5), p_ 1 18 (.bin 0 0 (.t 17) (i_ 1)), p_ 2 5 (m_ 18)])))))) (.seq (.seq (g_ 1 [p_ 0 6 (.mv (i_ 0))]) (.block 4 (.pre [.can 0 [1, 3, 6], .up 6, .upc 0 0 0, .can 0 [1, 3, 6]] (.inv 0 (.aft (.seq (.seq (g_ 5 [p_ 0 29 (m_ 6), p_ 1 30 (f_ 8 1), r_ 2 31 (l_ 30), p_ 3 32 (k_ 31), p_ 4 33 (.bin 3 0 (.t 29) (.t 32))]) (.cond (.t 33) .skip (.exit 4))) (.seq (.block 5 (g_ 10 [p_ 0 36 (m_ 3), p_ 1 37 (.bin 4 0 (.t 36) (.c (.str [32]))), p_ 2 38 (f_ 8 1), r_ 3 39 (l_ 38), p_ 4 40 (m_ 6), p_ 5 41 (.ixs 5 (.t 39) (.t 40)), r_ 6 42 (.ld true 5 (.t 41)), c_ 7 43 51 [.t 42], p_ 8 44 (.bin 4 0 (.t 37) (.t 43)), p_ 9 3 (m_ 44)])) (g_ 3 [p_ 0 34 (m_ 6), p_ 1 35 (.bin 0 0 (.t 34) (i_ 1)), p_ 2 6 (m_ 35)]))) [(0, [.can 0 [1, 3, 6]]), (4, [.can 0 [3]])]))))) (.seq (g_ 3 [p_ 0 45 (m_ 3), p_ 1 46 (.bin 4 0 (.t 45) (.c (.str [10]))), p_ 2 2 (m_ 46)]) .ret)))))) [(0, [.up 2]), (1, [.up 2])])
theorem ft_rline_ok : chkF Tryd.prog 25 ft_rline = true := by kernel_rfl
structure A_l_rline where
  kind : Int
  x : Int
  y : Int
  i : Int
  at_ : Int
  mode : Int
  mask : Int
  grp : Int
  hp : Value
  ps : List PtR
  w : List UInt8
  j : Int
structure R_l_rline where
  r : List UInt8
def po_l_rline (p : A_l_rline) (r : R_l_rline) : Prop := r.r = p.w ++ Lib.joinTail [32] ((p.ps.drop p.j.toNat).map partT) ∧ r.r.length ≤ 20000
noncomputable def I_l_rline (p : A_l_rline) : IL := ((.cons 6 (.sy (.int 0 p.j)) (.cons 3 (.sy (.str p.w)) (.cons 1 (.ptr 0 0) .nil))), (.node .leaf (some (.blk false 69 9 [[.sy (.int 0 p.kind), .sy (.int 0 p.x), .sy (.int 0 p.y), .sy (.int 0 p.i), .sy (.int 0 p.at_), .sy (.int 0 p.mode), .sy (.int 3 p.mask), .sy (.int 1 p.grp), .sy (.imm p.hp 5 PtR p.ps encP)]])) .leaf), 1)
noncomputable def out_l_rline (p : A_l_rline) (K : KC) : Bool := allB fun r : R_l_rline => iP (po_l_rline p r) (K 4 (.cons 3 (.sy (.str r.r)) .nil) .leaf 0) true
def pre_l_rline (p : A_l_rline) : Prop := p.ps.length ≤ 10 ∧ 0 ≤ p.j ∧ p.j ≤ (p.ps.length : Int) ∧ (p.w.length : Int) ≤ 10000 + 200 * p.j ∧ (∀ x ∈ p.ps, partR x) ∧ ∀ x ∈ p.ps, rgP x
theorem fin_l_rline {p : A_l_rline} {K : KC} (hK : out_l_rline p K = true) (r : R_l_rline) (h : po_l_rline p r) : K 4 (.cons 3 (.sy (.str r.r)) .nil) .leaf 0 = true := ifB_use h (allB_ok hK r)
noncomputable def sp_l_rline (p : A_l_rline) (K : KC) : Bool := must (prB (pre_l_rline p)) (out_l_rline p K)
noncomputable def lp_rline : LpF := fun j S M nx K => (Bool.rec (false) (exB fun p : A_l_rline => must (prB ((S, M, nx) = I_l_rline p)) (sp_l_rline p K)) (Nat.beq j 0))
def mu_l_rline (p : A_l_rline) : Nat := ((p.ps.length : Int) - p.j).toNat
theorem bk_l_rline {p q : A_l_rline} {K : KC} {s : IL} (hm : mu_l_rline q < mu_l_rline p) (hp : pre_l_rline q) (hK : out_l_rline q K = true) (e : s = I_l_rline q) : (exB fun q => mP (s = I_l_rline q ∧ mu_l_rline q < mu_l_rline p) (sp_l_rline q K)) = true := exB_mk q (mustP ⟨e, hm⟩ (mustP hp hK))
def bd_l_rline : XC := (.aft (.seq (.seq (g_ 5 [p_ 0 29 (m_ 6), p_ 1 30 (f_ 8 1), r_ 2 31 (l_ 30), p_ 3 32 (k_ 31), p_ 4 33 (.bin 3 0 (.t 29) (.t 32))]) (.cond (.t 33) .skip (.exit 4))) (.seq (.block 5 (g_ 10 [p_ 0 36 (m_ 3), p_ 1 37 (.bin 4 0 (.t 36) (.c (.str [32]))), p_ 2 38 (f_ 8 1), r_ 3 39 (l_ 38), p_ 4 40 (m_ 6), p_ 5 41 (.ixs 5 (.t 39) (.t 40)), r_ 6 42 (.ld true 5 (.t 41)), c_ 7 43 51 [.t 42], p_ 8 44 (.bin 4 0 (.t 37) (.t 43)), p_ 9 3 (m_ 44)])) (g_ 3 [p_ 0 34 (m_ 6), p_ 1 35 (.bin 0 0 (.t 34) (i_ 1)), p_ 2 6 (m_ 35)]))) [(0, [.can 0 [1, 3, 6]]), (4, [.can 0 [3]])])
theorem vb_l_rline (p : A_l_rline) (K : KC) (hpre : pre_l_rline p) (hK : out_l_rline p K = true) : (codeX (cfT nat_line) lp_rline 600 bd_l_rline (I_l_rline p).1 (I_l_rline p).2.1 (I_l_rline p).2.2 (fun e S M nx => Nat.casesOn e (exB fun q : A_l_rline => must (prB ((S, M, nx) = I_l_rline q ∧ mu_l_rline q < mu_l_rline p)) (sp_l_rline q K)) (fun e2 => K (Nat.succ e2) S M nx))) = true := by
  refine Eq.trans (b := (iP (p.j < (p.ps.length : Int)) (mP (p.w.length + (([32] : List Nat).map UInt8.ofNat).length ≤ 9223372036854775807) (mP (0 ≤ p.j ∧ p.j < (p.ps.length : Int)) (allB fun x1 : PtR => iP (p.ps[p.j.toNat]? = some x1) (useC (([.agg [.sy (.int 1 x1.g), .sy (.int 1 x1.k), .sy (.str x1.key), .sy (.str x1.val), .sy (.int 0 x1.n)]], .leaf, 0)) I_one pre_one po_one fun p1 r1 => mP ((p.w ++ (([32] : List Nat).map UInt8.ofNat)).length + r1.s.length ≤ 9223372036854775807) (mP (InR 0 (p.j + (1 : Int))) (exB fun q1 : A_l_rline => mP (((.cons 6 (.sy (.int 0 (p.j + (1 : Int)))) (.cons 3 (.sy (.str ((p.w ++ (([32] : List Nat).map UInt8.ofNat)) ++ r1.s))) (.cons 1 (.ptr 0 0) .nil))), (.node .leaf (some (.blk false 69 9 [[.sy (.int 0 p.kind), .sy (.int 0 p.x), .sy (.int 0 p.y), .sy (.int 0 p.i), .sy (.int 0 p.at_), .sy (.int 0 p.mode), .sy (.int 3 p.mask), .sy (.int 1 p.grp), .sy (.imm p.hp 5 PtR p.ps encP)]])) .leaf), 1) = I_l_rline q1 ∧ mu_l_rline q1 < mu_l_rline p) (sp_l_rline q1 K)))) true))) (K 4 (.cons 3 (.sy (.str p.w)) .nil) .leaf 0))) (by kernel_rfl) ?_
  dsimp only [pre_l_rline] at hpre
  obtain ⟨g0, g1, g2, g3, g4, g5⟩ := hpre
  refine iI (fun hc1 => ?_) (fun hc1 => ?_)
  refine mI (by (try simp only [List.length_append, List.length_map, List.length_cons, List.length_nil]) ; omega) (mI (by first | omega | (constructor <;> omega)) ?_)
  refine allB_mk (fun x1 => ?_)
  refine iI (fun hi2 => ?_) (fun _ => rfl)
  have hg_x1 := g4 _ (List.mem_of_getElem? (by assumption : p.ps[p.j.toNat]? = some x1))
  have hr_x1 := g5 _ (List.mem_of_getElem? (by assumption : p.ps[p.j.toNat]? = some x1))
  refine callPR (⟨x1⟩ : A_one) rfl (by (try dsimp only [pre_one]) ; exact ⟨by assumption, by assumption⟩) fun r1 hi3 => ?_
  dsimp only [po_one] at hi3
  refine mI (by (try simp only [List.length_append, List.length_map, List.length_cons, List.length_nil]) ; omega) (mI (by simp only [InR] ; omega) ?_)
  exact bk_l_rline (q := ⟨p.kind, p.x, p.y, p.i, p.at_, p.mode, p.mask, p.grp, p.hp, p.ps, (p.w ++ (([32] : List Nat).map UInt8.ofNat)) ++ r1.s, p.j + (1 : Int)⟩) (by dsimp only [mu_l_rline] ; omega) (by dsimp only [pre_l_rline] ; exact ⟨g0, by omega, by omega, by simp ; omega, g4, g5⟩) (out_weak hK fun r hz => ⟨jt_step g1 (by assumption) hi3.1 hz.1, hz.2⟩) rfl
  exact fin_l_rline hK ⟨p.w⟩ (by dsimp only [po_l_rline] <;> (exact ⟨by rw [drop_out (by omega)] ; simp [Lib.joinTail], by omega⟩))
theorem lo_l_rline : LpOk Tryd.prog 47 0 lp_rline true 0 bd_l_rline := by
  exact lp_of (lf := 600) ts_mix (cfT_ok nat_line_ok) (by rfl) I_l_rline mu_l_rline sp_l_rline (fun b j x h => by cases h) (fun S M nx K h => by obtain ⟨p, h⟩ := exB_ok h; exact ⟨p, (mustP_ok h).1, (mustP_ok h).2⟩) (fun p K h => vb_l_rline p K (mustP_ok h).1 (mustP_ok h).2)
structure A_rline where
  o : OpR
structure R_rline where
  s : List UInt8
def po_rline (p : A_rline) (r : R_rline) : Prop := r.s = lineT p.o ∧ r.s.length ≤ 1500
noncomputable def I_rline (p : A_rline) : IE := ([.agg [.sy (.int 0 p.o.kind), .sy (.int 0 p.o.x), .sy (.int 0 p.o.y), .sy (.int 0 p.o.i), .sy (.int 0 p.o.at_), .sy (.int 0 p.o.mode), .sy (.int 3 p.o.mask), .sy (.int 1 p.o.grp), .sy (.imm p.o.hp 5 PtR p.o.ps encP)]], .leaf, 0)
noncomputable def out_rline (p : A_rline) (K : KE) : Bool := allB fun r : R_rline => iP (po_rline p r) (K (.sy (.str r.s)) .leaf 0) true
def pre_rline (p : A_rline) : Prop := opR p.o ∧ rgO p.o ∧ p.o.ps.length ≤ 10
theorem fin_rline {p : A_rline} {K : KE} (hK : out_rline p K = true) (r : R_rline) (h : po_rline p r) : K (.sy (.str r.s)) .leaf 0 = true := ifB_use h (allB_ok hK r)
theorem vf_rline (p : A_rline) (K : KE) (hpre : pre_rline p) (hK : out_rline p K = true) : (funE 0 (cfT nat_line) lp_rline 600 ft_rline (I_rline p).1 (I_rline p).2.1 (I_rline p).2.2 K) = true := by
  refine Eq.trans (b := (iP (p.o.kind = 0) (mP (InR 4 p.o.x) (mP (InR 4 p.o.x) (mP ((([105, 110, 118, 111, 107, 101, 32] : List Nat).map UInt8.ofNat).length + (Lib.itoa p.o.x).length ≤ 9223372036854775807) (mP (((([105, 110, 118, 111, 107, 101, 32] : List Nat).map UInt8.ofNat) ++ (Lib.itoa p.o.x)).length + (([32] : List Nat).map UInt8.ofNat).length ≤ 9223372036854775807) (mP (InR 4 p.o.mode) (mP (InR 4 p.o.mode) (mP ((((([105, 110, 118, 111, 107, 101, 32] : List Nat).map UInt8.ofNat) ++ (Lib.itoa p.o.x)) ++ (([32] : List Nat).map UInt8.ofNat)).length + (Lib.itoa p.o.mode).length ≤ 9223372036854775807) (useC (((.cons 6 (.sy (.int 0 0)) (.cons 3 (.sy (.str ((((([105, 110, 118, 111, 107, 101, 32] : List Nat).map UInt8.ofNat) ++ (Lib.itoa p.o.x)) ++ (([32] : List Nat).map UInt8.ofNat)) ++ (Lib.itoa p.o.mode)))) (.cons 1 (.ptr 0 0) .nil))), (.node .leaf (some (.blk false 69 9 [[.sy (.int 0 0), .sy (.int 0 p.o.x), .sy (.int 0 p.o.y), .sy (.int 0 p.o.i), .sy (.int 0 p.o.at_), .sy (.int 0 p.o.mode), .sy (.int 3 p.o.mask), .sy (.int 1 p.o.grp), .sy (.imm p.o.hp 5 PtR p.o.ps encP)]])) .leaf), 1)) I_l_rline pre_l_rline po_l_rline fun p12 r12 => mP (r12.r.length + (([10] : List Nat).map UInt8.ofNat).length ≤ 9223372036854775807) (K (.sy (.str (r12.r ++ (([10] : List Nat).map UInt8.ofNat)))) .leaf 0))))))))) (iP (p.o.kind = 1) (mP (InR 4 p.o.x) (mP (InR 4 p.o.x) (mP ((([115, 108, 97, 121, 32] : List Nat).map UInt8.ofNat).length + (Lib.itoa p.o.x).length ≤ 9223372036854775807) (mP (((([115, 108, 97, 121, 32] : List Nat).map UInt8.ofNat) ++ (Lib.itoa p.o.x)).length + (([32] : List Nat).map UInt8.ofNat).length ≤ 9223372036854775807) (mP (InR 4 p.o.y) (mP (InR 4 p.o.y) (mP ((((([115, 108, 97, 121, 32] : List Nat).map UInt8.ofNat) ++ (Lib.itoa p.o.x)) ++ (([32] : List Nat).map UInt8.ofNat)).length + (Lib.itoa p.o.y).length ≤ 9223372036854775807) (useC (((.cons 6 (.sy (.int 0 0)) (.cons 3 (.sy (.str ((((([115, 108, 97, 121, 32] : List Nat).map UInt8.ofNat) ++ (Lib.itoa p.o.x)) ++ (([32] : List Nat).map UInt8.ofNat)) ++ (Lib.itoa p.o.y)))) (.cons 1 (.ptr 0 0) .nil))), (.node .leaf (some (.blk false 69 9 [[.sy (.int 0 1), .sy (.int 0 p.o.x), .sy (.int 0 p.o.y), .sy (.int 0 p.o.i), .sy (.int 0 p.o.at_), .sy (.int 0 p.o.mode), .sy (.int 3 p.o.mask), .sy (.int 1 p.o.grp), .sy (.imm p.o.hp 5 PtR p.o.ps encP)]])) .leaf), 1)) I_l_rline pre_l_rline po_l_rline fun p11 r11 => mP (r11.r.length + (([10] : List Nat).map UInt8.ofNat).length ≤ 9223372036854775807) (K (.sy (.str (r11.r ++ (([10] : List Nat).map UInt8.ofNat)))) .leaf 0))))))))) (iP (p.o.kind = 2) (mP (InR 4 p.o.i) (mP (InR 4 p.o.i) (mP ((([100, 101, 108, 105, 118, 101, 114, 32] : List Nat).map UInt8.ofNat).length + (Lib.itoa p.o.i).length ≤ 9223372036854775807) (useC (((.cons 6 (.sy (.int 0 0)) (.cons 3 (.sy (.str ((([100, 101, 108, 105, 118, 101, 114, 32] : List Nat).map UInt8.ofNat) ++ (Lib.itoa p.o.i)))) (.cons 1 (.ptr 0 0) .nil))), (.node .leaf (some (.blk false 69 9 [[.sy (.int 0 2), .sy (.int 0 p.o.x), .sy (.int 0 p.o.y), .sy (.int 0 p.o.i), .sy (.int 0 p.o.at_), .sy (.int 0 p.o.mode), .sy (.int 3 p.o.mask), .sy (.int 1 p.o.grp), .sy (.imm p.o.hp 5 PtR p.o.ps encP)]])) .leaf), 1)) I_l_rline pre_l_rline po_l_rline fun p10 r10 => mP (r10.r.length + (([10] : List Nat).map UInt8.ofNat).length ≤ 9223372036854775807) (K (.sy (.str (r10.r ++ (([10] : List Nat).map UInt8.ofNat)))) .leaf 0))))) (iP (p.o.kind = 3) (mP (InR 4 p.o.i) (mP (InR 4 p.o.i) (mP ((([100, 114, 111, 112, 32] : List Nat).map UInt8.ofNat).length + (Lib.itoa p.o.i).length ≤ 9223372036854775807) (useC (((.cons 6 (.sy (.int 0 0)) (.cons 3 (.sy (.str ((([100, 114, 111, 112, 32] : List Nat).map UInt8.ofNat) ++ (Lib.itoa p.o.i)))) (.cons 1 (.ptr 0 0) .nil))), (.node .leaf (some (.blk false 69 9 [[.sy (.int 0 3), .sy (.int 0 p.o.x), .sy (.int 0 p.o.y), .sy (.int 0 p.o.i), .sy (.int 0 p.o.at_), .sy (.int 0 p.o.mode), .sy (.int 3 p.o.mask), .sy (.int 1 p.o.grp), .sy (.imm p.o.hp 5 PtR p.o.ps encP)]])) .leaf), 1)) I_l_rline pre_l_rline po_l_rline fun p9 r9 => mP (r9.r.length + (([10] : List Nat).map UInt8.ofNat).length ≤ 9223372036854775807) (K (.sy (.str (r9.r ++ (([10] : List Nat).map UInt8.ofNat)))) .leaf 0))))) (iP (p.o.kind = 4) (mP (InR 4 p.o.i) (mP (InR 4 p.o.i) (mP ((([116, 119, 105, 99, 101, 32] : List Nat).map UInt8.ofNat).length + (Lib.itoa p.o.i).length ≤ 9223372036854775807) (useC (((.cons 6 (.sy (.int 0 0)) (.cons 3 (.sy (.str ((([116, 119, 105, 99, 101, 32] : List Nat).map UInt8.ofNat) ++ (Lib.itoa p.o.i)))) (.cons 1 (.ptr 0 0) .nil))), (.node .leaf (some (.blk false 69 9 [[.sy (.int 0 4), .sy (.int 0 p.o.x), .sy (.int 0 p.o.y), .sy (.int 0 p.o.i), .sy (.int 0 p.o.at_), .sy (.int 0 p.o.mode), .sy (.int 3 p.o.mask), .sy (.int 1 p.o.grp), .sy (.imm p.o.hp 5 PtR p.o.ps encP)]])) .leaf), 1)) I_l_rline pre_l_rline po_l_rline fun p8 r8 => mP (r8.r.length + (([10] : List Nat).map UInt8.ofNat).length ≤ 9223372036854775807) (K (.sy (.str (r8.r ++ (([10] : List Nat).map UInt8.ofNat)))) .leaf 0))))) (iP (p.o.kind = 5) (mP (InR 4 p.o.i) (mP (InR 4 p.o.i) (mP ((([115, 112, 111, 105, 108, 32] : List Nat).map UInt8.ofNat).length + (Lib.itoa p.o.i).length ≤ 9223372036854775807) (mP (((([115, 112, 111, 105, 108, 32] : List Nat).map UInt8.ofNat) ++ (Lib.itoa p.o.i)).length + (([32] : List Nat).map UInt8.ofNat).length ≤ 9223372036854775807) (mP (InR 4 p.o.at_) (mP (InR 4 p.o.at_) (mP ((((([115, 112, 111, 105, 108, 32] : List Nat).map UInt8.ofNat) ++ (Lib.itoa p.o.i)) ++ (([32] : List Nat).map UInt8.ofNat)).length + (Lib.itoa p.o.at_).length ≤ 9223372036854775807) (mP (((((([115, 112, 111, 105, 108, 32] : List Nat).map UInt8.ofNat) ++ (Lib.itoa p.o.i)) ++ (([32] : List Nat).map UInt8.ofNat)) ++ (Lib.itoa p.o.at_)).length + (([32] : List Nat).map UInt8.ofNat).length ≤ 9223372036854775807) (mP (InR 0 p.o.mask) (mP (InR 4 p.o.mask) (mP (InR 4 p.o.mask) (mP ((((((([115, 112, 111, 105, 108, 32] : List Nat).map UInt8.ofNat) ++ (Lib.itoa p.o.i)) ++ (([32] : List Nat).map UInt8.ofNat)) ++ (Lib.itoa p.o.at_)) ++ (([32] : List Nat).map UInt8.ofNat)).length + (Lib.itoa p.o.mask).length ≤ 9223372036854775807) (useC (((.cons 6 (.sy (.int 0 0)) (.cons 3 (.sy (.str ((((((([115, 112, 111, 105, 108, 32] : List Nat).map UInt8.ofNat) ++ (Lib.itoa p.o.i)) ++ (([32] : List Nat).map UInt8.ofNat)) ++ (Lib.itoa p.o.at_)) ++ (([32] : List Nat).map UInt8.ofNat)) ++ (Lib.itoa p.o.mask)))) (.cons 1 (.ptr 0 0) .nil))), (.node .leaf (some (.blk false 69 9 [[.sy (.int 0 5), .sy (.int 0 p.o.x), .sy (.int 0 p.o.y), .sy (.int 0 p.o.i), .sy (.int 0 p.o.at_), .sy (.int 0 p.o.mode), .sy (.int 3 p.o.mask), .sy (.int 1 p.o.grp), .sy (.imm p.o.hp 5 PtR p.o.ps encP)]])) .leaf), 1)) I_l_rline pre_l_rline po_l_rline fun p7 r7 => mP (r7.r.length + (([10] : List Nat).map UInt8.ofNat).length ≤ 9223372036854775807) (K (.sy (.str (r7.r ++ (([10] : List Nat).map UInt8.ofNat)))) .leaf 0)))))))))))))) (iP (p.o.kind = 6) (mP (InR 4 p.o.x) (mP (InR 4 p.o.x) (mP ((([116, 105, 99, 107, 32] : List Nat).map UInt8.ofNat).length + (Lib.itoa p.o.x).length ≤ 9223372036854775807) (useC (((.cons 6 (.sy (.int 0 0)) (.cons 3 (.sy (.str ((([116, 105, 99, 107, 32] : List Nat).map UInt8.ofNat) ++ (Lib.itoa p.o.x)))) (.cons 1 (.ptr 0 0) .nil))), (.node .leaf (some (.blk false 69 9 [[.sy (.int 0 6), .sy (.int 0 p.o.x), .sy (.int 0 p.o.y), .sy (.int 0 p.o.i), .sy (.int 0 p.o.at_), .sy (.int 0 p.o.mode), .sy (.int 3 p.o.mask), .sy (.int 1 p.o.grp), .sy (.imm p.o.hp 5 PtR p.o.ps encP)]])) .leaf), 1)) I_l_rline pre_l_rline po_l_rline fun p6 r6 => mP (r6.r.length + (([10] : List Nat).map UInt8.ofNat).length ≤ 9223372036854775807) (K (.sy (.str (r6.r ++ (([10] : List Nat).map UInt8.ofNat)))) .leaf 0))))) (iP (p.o.kind = 7) (mP (InR 4 p.o.x) (mP (InR 4 p.o.x) (mP ((([115, 117, 115, 112, 101, 99, 116, 32] : List Nat).map UInt8.ofNat).length + (Lib.itoa p.o.x).length ≤ 9223372036854775807) (mP (((([115, 117, 115, 112, 101, 99, 116, 32] : List Nat).map UInt8.ofNat) ++ (Lib.itoa p.o.x)).length + (([32] : List Nat).map UInt8.ofNat).length ≤ 9223372036854775807) (mP (InR 4 p.o.y) (mP (InR 4 p.o.y) (mP ((((([115, 117, 115, 112, 101, 99, 116, 32] : List Nat).map UInt8.ofNat) ++ (Lib.itoa p.o.x)) ++ (([32] : List Nat).map UInt8.ofNat)).length + (Lib.itoa p.o.y).length ≤ 9223372036854775807) (useC (((.cons 6 (.sy (.int 0 0)) (.cons 3 (.sy (.str ((((([115, 117, 115, 112, 101, 99, 116, 32] : List Nat).map UInt8.ofNat) ++ (Lib.itoa p.o.x)) ++ (([32] : List Nat).map UInt8.ofNat)) ++ (Lib.itoa p.o.y)))) (.cons 1 (.ptr 0 0) .nil))), (.node .leaf (some (.blk false 69 9 [[.sy (.int 0 7), .sy (.int 0 p.o.x), .sy (.int 0 p.o.y), .sy (.int 0 p.o.i), .sy (.int 0 p.o.at_), .sy (.int 0 p.o.mode), .sy (.int 3 p.o.mask), .sy (.int 1 p.o.grp), .sy (.imm p.o.hp 5 PtR p.o.ps encP)]])) .leaf), 1)) I_l_rline pre_l_rline po_l_rline fun p5 r5 => mP (r5.r.length + (([10] : List Nat).map UInt8.ofNat).length ≤ 9223372036854775807) (K (.sy (.str (r5.r ++ (([10] : List Nat).map UInt8.ofNat)))) .leaf 0))))))))) (iP (p.o.kind = 8) (mP (InR 4 p.o.x) (mP (InR 4 p.o.x) (mP ((([99, 114, 97, 115, 104, 32] : List Nat).map UInt8.ofNat).length + (Lib.itoa p.o.x).length ≤ 9223372036854775807) (useC (((.cons 6 (.sy (.int 0 0)) (.cons 3 (.sy (.str ((([99, 114, 97, 115, 104, 32] : List Nat).map UInt8.ofNat) ++ (Lib.itoa p.o.x)))) (.cons 1 (.ptr 0 0) .nil))), (.node .leaf (some (.blk false 69 9 [[.sy (.int 0 8), .sy (.int 0 p.o.x), .sy (.int 0 p.o.y), .sy (.int 0 p.o.i), .sy (.int 0 p.o.at_), .sy (.int 0 p.o.mode), .sy (.int 3 p.o.mask), .sy (.int 1 p.o.grp), .sy (.imm p.o.hp 5 PtR p.o.ps encP)]])) .leaf), 1)) I_l_rline pre_l_rline po_l_rline fun p4 r4 => mP (r4.r.length + (([10] : List Nat).map UInt8.ofNat).length ≤ 9223372036854775807) (K (.sy (.str (r4.r ++ (([10] : List Nat).map UInt8.ofNat)))) .leaf 0))))) (iP (p.o.kind = 9) (mP (InR 4 p.o.x) (mP (InR 4 p.o.x) (mP ((([114, 101, 115, 116, 97, 114, 116, 32] : List Nat).map UInt8.ofNat).length + (Lib.itoa p.o.x).length ≤ 9223372036854775807) (useC (((.cons 6 (.sy (.int 0 0)) (.cons 3 (.sy (.str ((([114, 101, 115, 116, 97, 114, 116, 32] : List Nat).map UInt8.ofNat) ++ (Lib.itoa p.o.x)))) (.cons 1 (.ptr 0 0) .nil))), (.node .leaf (some (.blk false 69 9 [[.sy (.int 0 9), .sy (.int 0 p.o.x), .sy (.int 0 p.o.y), .sy (.int 0 p.o.i), .sy (.int 0 p.o.at_), .sy (.int 0 p.o.mode), .sy (.int 3 p.o.mask), .sy (.int 1 p.o.grp), .sy (.imm p.o.hp 5 PtR p.o.ps encP)]])) .leaf), 1)) I_l_rline pre_l_rline po_l_rline fun p3 r3 => mP (r3.r.length + (([10] : List Nat).map UInt8.ofNat).length ≤ 9223372036854775807) (K (.sy (.str (r3.r ++ (([10] : List Nat).map UInt8.ofNat)))) .leaf 0))))) (iP (p.o.kind = 10) (mP (InR 4 p.o.x) (mP (InR 4 p.o.x) (mP ((([106, 111, 105, 110, 32] : List Nat).map UInt8.ofNat).length + (Lib.itoa p.o.x).length ≤ 9223372036854775807) (useC (((.cons 6 (.sy (.int 0 0)) (.cons 3 (.sy (.str ((([106, 111, 105, 110, 32] : List Nat).map UInt8.ofNat) ++ (Lib.itoa p.o.x)))) (.cons 1 (.ptr 0 0) .nil))), (.node .leaf (some (.blk false 69 9 [[.sy (.int 0 10), .sy (.int 0 p.o.x), .sy (.int 0 p.o.y), .sy (.int 0 p.o.i), .sy (.int 0 p.o.at_), .sy (.int 0 p.o.mode), .sy (.int 3 p.o.mask), .sy (.int 1 p.o.grp), .sy (.imm p.o.hp 5 PtR p.o.ps encP)]])) .leaf), 1)) I_l_rline pre_l_rline po_l_rline fun p2 r2 => mP (r2.r.length + (([10] : List Nat).map UInt8.ofNat).length ≤ 9223372036854775807) (K (.sy (.str (r2.r ++ (([10] : List Nat).map UInt8.ofNat)))) .leaf 0))))) (iP (p.o.kind = 11) (mP (InR 4 p.o.x) (mP (InR 4 p.o.x) (mP ((([108, 101, 97, 118, 101, 32] : List Nat).map UInt8.ofNat).length + (Lib.itoa p.o.x).length ≤ 9223372036854775807) (useC (((.cons 6 (.sy (.int 0 0)) (.cons 3 (.sy (.str ((([108, 101, 97, 118, 101, 32] : List Nat).map UInt8.ofNat) ++ (Lib.itoa p.o.x)))) (.cons 1 (.ptr 0 0) .nil))), (.node .leaf (some (.blk false 69 9 [[.sy (.int 0 11), .sy (.int 0 p.o.x), .sy (.int 0 p.o.y), .sy (.int 0 p.o.i), .sy (.int 0 p.o.at_), .sy (.int 0 p.o.mode), .sy (.int 3 p.o.mask), .sy (.int 1 p.o.grp), .sy (.imm p.o.hp 5 PtR p.o.ps encP)]])) .leaf), 1)) I_l_rline pre_l_rline po_l_rline fun p1 r1 => mP (r1.r.length + (([10] : List Nat).map UInt8.ofNat).length ≤ 9223372036854775807) (K (.sy (.str (r1.r ++ (([10] : List Nat).map UInt8.ofNat)))) .leaf 0))))) (mP (False) (true))))))))))))))) (by kernel_rfl) ?_
  dsimp only [pre_rline] at hpre
  obtain ⟨q1, q2, q3⟩ := hpre
  have q4 := opR_kind q1
  have q5 := opR_pos q1
  have q6 := lineT_len q1 q2 q3
  have q7 := opR_parts q1
  have q8 := q2.2.2.2
  unfold rgO I64r at q2
  have q9 := itoaU (z := p.o.x) q5.1 (by omega)
  have q10 := itoaU (z := p.o.y) q5.2.1 (by omega)
  have q11 := itoaU (z := p.o.i) q5.2.2.1 (by omega)
  have q12 := itoaU (z := p.o.at_) q5.2.2.2.1 (by omega)
  have q13 := itoaU (z := p.o.mode) q5.2.2.2.2 (by omega)
  have q14 := itoaU (z := p.o.mask) q2.2.1.1 (by omega)
  refine iI (fun hc1 => ?_) (fun hc1 => ?_)
  refine mI (by simp only [InR] ; omega) (mI (by simp only [InR] ; omega) (mI (by (try simp only [List.length_append, List.length_map, List.length_cons, List.length_nil]) ; omega) (mI (by (try simp only [List.length_append, List.length_map, List.length_cons, List.length_nil]) ; omega) (mI (by simp only [InR] ; omega) (mI (by simp only [InR] ; omega) (mI (by (try simp only [List.length_append, List.length_map, List.length_cons, List.length_nil]) ; omega) ?_))))))
  refine callPR (⟨(0 : Int), p.o.x, p.o.y, p.o.i, p.o.at_, p.o.mode, p.o.mask, p.o.grp, p.o.hp, p.o.ps, (((([105, 110, 118, 111, 107, 101, 32] : List Nat).map UInt8.ofNat) ++ (Lib.itoa p.o.x)) ++ (([32] : List Nat).map UInt8.ofNat)) ++ (Lib.itoa p.o.mode), (0 : Int)⟩ : A_l_rline) rfl (by (try dsimp only [pre_l_rline]) ; exact ⟨q3, by omega, by omega, (by simp ; omega), q7, q8⟩) fun r12 hi2 => ?_
  dsimp only [po_l_rline] at hi2
  refine mI (by (try simp only [List.length_append, List.length_map, List.length_cons, List.length_nil]) ; omega) ?_
  exact fin_rline hK ⟨r12.r ++ (([10] : List Nat).map UInt8.ofNat)⟩ (by dsimp only [po_rline] <;> (exact lenEq (by have e9 := hi2.1 ; simp only [Int.toNat_zero, List.drop_zero] at e9 ; rw [e9] ; first | simp [lineT, wordT, numsT, Lib.joinTail, hkd] | (simp_all [lineT, wordT, numsT, Lib.joinTail] ; done)) q6))
  refine iI (fun hc3 => ?_) (fun hc3 => ?_)
  refine mI (by simp only [InR] ; omega) (mI (by simp only [InR] ; omega) (mI (by (try simp only [List.length_append, List.length_map, List.length_cons, List.length_nil]) ; omega) (mI (by (try simp only [List.length_append, List.length_map, List.length_cons, List.length_nil]) ; omega) (mI (by simp only [InR] ; omega) (mI (by simp only [InR] ; omega) (mI (by (try simp only [List.length_append, List.length_map, List.length_cons, List.length_nil]) ; omega) ?_))))))
  refine callPR (⟨(1 : Int), p.o.x, p.o.y, p.o.i, p.o.at_, p.o.mode, p.o.mask, p.o.grp, p.o.hp, p.o.ps, (((([115, 108, 97, 121, 32] : List Nat).map UInt8.ofNat) ++ (Lib.itoa p.o.x)) ++ (([32] : List Nat).map UInt8.ofNat)) ++ (Lib.itoa p.o.y), (0 : Int)⟩ : A_l_rline) rfl (by (try dsimp only [pre_l_rline]) ; exact ⟨q3, by omega, by omega, (by simp ; omega), q7, q8⟩) fun r11 hi4 => ?_
  dsimp only [po_l_rline] at hi4
  refine mI (by (try simp only [List.length_append, List.length_map, List.length_cons, List.length_nil]) ; omega) ?_
  exact fin_rline hK ⟨r11.r ++ (([10] : List Nat).map UInt8.ofNat)⟩ (by dsimp only [po_rline] <;> (exact lenEq (by have e9 := hi4.1 ; simp only [Int.toNat_zero, List.drop_zero] at e9 ; rw [e9] ; first | simp [lineT, wordT, numsT, Lib.joinTail, hkd] | (simp_all [lineT, wordT, numsT, Lib.joinTail] ; done)) q6))
  refine iI (fun hc5 => ?_) (fun hc5 => ?_)
  refine mI (by simp only [InR] ; omega) (mI (by simp only [InR] ; omega) (mI (by (try simp only [List.length_append, List.length_map, List.length_cons, List.length_nil]) ; omega) ?_))
  refine callPR (⟨(2 : Int), p.o.x, p.o.y, p.o.i, p.o.at_, p.o.mode, p.o.mask, p.o.grp, p.o.hp, p.o.ps, (([100, 101, 108, 105, 118, 101, 114, 32] : List Nat).map UInt8.ofNat) ++ (Lib.itoa p.o.i), (0 : Int)⟩ : A_l_rline) rfl (by (try dsimp only [pre_l_rline]) ; exact ⟨q3, by omega, by omega, (by simp ; omega), q7, q8⟩) fun r10 hi6 => ?_
  dsimp only [po_l_rline] at hi6
  refine mI (by (try simp only [List.length_append, List.length_map, List.length_cons, List.length_nil]) ; omega) ?_
  exact fin_rline hK ⟨r10.r ++ (([10] : List Nat).map UInt8.ofNat)⟩ (by dsimp only [po_rline] <;> (exact lenEq (by have e9 := hi6.1 ; simp only [Int.toNat_zero, List.drop_zero] at e9 ; rw [e9] ; first | simp [lineT, wordT, numsT, Lib.joinTail, hkd] | (simp_all [lineT, wordT, numsT, Lib.joinTail] ; done)) q6))
  refine iI (fun hc7 => ?_) (fun hc7 => ?_)
  refine mI (by simp only [InR] ; omega) (mI (by simp only [InR] ; omega) (mI (by (try simp only [List.length_append, List.length_map, List.length_cons, List.length_nil]) ; omega) ?_))
  refine callPR (⟨(3 : Int), p.o.x, p.o.y, p.o.i, p.o.at_, p.o.mode, p.o.mask, p.o.grp, p.o.hp, p.o.ps, (([100, 114, 111, 112, 32] : List Nat).map UInt8.ofNat) ++ (Lib.itoa p.o.i), (0 : Int)⟩ : A_l_rline) rfl (by (try dsimp only [pre_l_rline]) ; exact ⟨q3, by omega, by omega, (by simp ; omega), q7, q8⟩) fun r9 hi8 => ?_
  dsimp only [po_l_rline] at hi8
  refine mI (by (try simp only [List.length_append, List.length_map, List.length_cons, List.length_nil]) ; omega) ?_
  exact fin_rline hK ⟨r9.r ++ (([10] : List Nat).map UInt8.ofNat)⟩ (by dsimp only [po_rline] <;> (exact lenEq (by have e9 := hi8.1 ; simp only [Int.toNat_zero, List.drop_zero] at e9 ; rw [e9] ; first | simp [lineT, wordT, numsT, Lib.joinTail, hkd] | (simp_all [lineT, wordT, numsT, Lib.joinTail] ; done)) q6))
  refine iI (fun hc9 => ?_) (fun hc9 => ?_)
  refine mI (by simp only [InR] ; omega) (mI (by simp only [InR] ; omega) (mI (by (try simp only [List.length_append, List.length_map, List.length_cons, List.length_nil]) ; omega) ?_))
  refine callPR (⟨(4 : Int), p.o.x, p.o.y, p.o.i, p.o.at_, p.o.mode, p.o.mask, p.o.grp, p.o.hp, p.o.ps, (([116, 119, 105, 99, 101, 32] : List Nat).map UInt8.ofNat) ++ (Lib.itoa p.o.i), (0 : Int)⟩ : A_l_rline) rfl (by (try dsimp only [pre_l_rline]) ; exact ⟨q3, by omega, by omega, (by simp ; omega), q7, q8⟩) fun r8 hi10 => ?_
  dsimp only [po_l_rline] at hi10
  refine mI (by (try simp only [List.length_append, List.length_map, List.length_cons, List.length_nil]) ; omega) ?_
  exact fin_rline hK ⟨r8.r ++ (([10] : List Nat).map UInt8.ofNat)⟩ (by dsimp only [po_rline] <;> (exact lenEq (by have e9 := hi10.1 ; simp only [Int.toNat_zero, List.drop_zero] at e9 ; rw [e9] ; first | simp [lineT, wordT, numsT, Lib.joinTail, hkd] | (simp_all [lineT, wordT, numsT, Lib.joinTail] ; done)) q6))
  refine iI (fun hc11 => ?_) (fun hc11 => ?_)
  refine mI (by simp only [InR] ; omega) (mI (by simp only [InR] ; omega) (mI (by (try simp only [List.length_append, List.length_map, List.length_cons, List.length_nil]) ; omega) (mI (by (try simp only [List.length_append, List.length_map, List.length_cons, List.length_nil]) ; omega) (mI (by simp only [InR] ; omega) (mI (by simp only [InR] ; omega) (mI (by (try simp only [List.length_append, List.length_map, List.length_cons, List.length_nil]) ; omega) ?_))))))
  refine mI (by (try simp only [List.length_append, List.length_map, List.length_cons, List.length_nil]) ; omega) (mI (by simp only [InR] ; omega) (mI (by simp only [InR] ; omega) (mI (by simp only [InR] ; omega) (mI (by (try simp only [List.length_append, List.length_map, List.length_cons, List.length_nil]) ; omega) ?_))))
  refine callPR (⟨(5 : Int), p.o.x, p.o.y, p.o.i, p.o.at_, p.o.mode, p.o.mask, p.o.grp, p.o.hp, p.o.ps, (((((([115, 112, 111, 105, 108, 32] : List Nat).map UInt8.ofNat) ++ (Lib.itoa p.o.i)) ++ (([32] : List Nat).map UInt8.ofNat)) ++ (Lib.itoa p.o.at_)) ++ (([32] : List Nat).map UInt8.ofNat)) ++ (Lib.itoa p.o.mask), (0 : Int)⟩ : A_l_rline) rfl (by (try dsimp only [pre_l_rline]) ; exact ⟨q3, by omega, by omega, (by simp ; omega), q7, q8⟩) fun r7 hi12 => ?_
  dsimp only [po_l_rline] at hi12
  refine mI (by (try simp only [List.length_append, List.length_map, List.length_cons, List.length_nil]) ; omega) ?_
  exact fin_rline hK ⟨r7.r ++ (([10] : List Nat).map UInt8.ofNat)⟩ (by dsimp only [po_rline] <;> (exact lenEq (by have e9 := hi12.1 ; simp only [Int.toNat_zero, List.drop_zero] at e9 ; rw [e9] ; first | simp [lineT, wordT, numsT, Lib.joinTail, hkd] | (simp_all [lineT, wordT, numsT, Lib.joinTail] ; done)) q6))
  refine iI (fun hc13 => ?_) (fun hc13 => ?_)
  refine mI (by simp only [InR] ; omega) (mI (by simp only [InR] ; omega) (mI (by (try simp only [List.length_append, List.length_map, List.length_cons, List.length_nil]) ; omega) ?_))
  refine callPR (⟨(6 : Int), p.o.x, p.o.y, p.o.i, p.o.at_, p.o.mode, p.o.mask, p.o.grp, p.o.hp, p.o.ps, (([116, 105, 99, 107, 32] : List Nat).map UInt8.ofNat) ++ (Lib.itoa p.o.x), (0 : Int)⟩ : A_l_rline) rfl (by (try dsimp only [pre_l_rline]) ; exact ⟨q3, by omega, by omega, (by simp ; omega), q7, q8⟩) fun r6 hi14 => ?_
  dsimp only [po_l_rline] at hi14
  refine mI (by (try simp only [List.length_append, List.length_map, List.length_cons, List.length_nil]) ; omega) ?_
  exact fin_rline hK ⟨r6.r ++ (([10] : List Nat).map UInt8.ofNat)⟩ (by dsimp only [po_rline] <;> (exact lenEq (by have e9 := hi14.1 ; simp only [Int.toNat_zero, List.drop_zero] at e9 ; rw [e9] ; first | simp [lineT, wordT, numsT, Lib.joinTail, hkd] | (simp_all [lineT, wordT, numsT, Lib.joinTail] ; done)) q6))
  refine iI (fun hc15 => ?_) (fun hc15 => ?_)
  refine mI (by simp only [InR] ; omega) (mI (by simp only [InR] ; omega) (mI (by (try simp only [List.length_append, List.length_map, List.length_cons, List.length_nil]) ; omega) (mI (by (try simp only [List.length_append, List.length_map, List.length_cons, List.length_nil]) ; omega) (mI (by simp only [InR] ; omega) (mI (by simp only [InR] ; omega) (mI (by (try simp only [List.length_append, List.length_map, List.length_cons, List.length_nil]) ; omega) ?_))))))
  refine callPR (⟨(7 : Int), p.o.x, p.o.y, p.o.i, p.o.at_, p.o.mode, p.o.mask, p.o.grp, p.o.hp, p.o.ps, (((([115, 117, 115, 112, 101, 99, 116, 32] : List Nat).map UInt8.ofNat) ++ (Lib.itoa p.o.x)) ++ (([32] : List Nat).map UInt8.ofNat)) ++ (Lib.itoa p.o.y), (0 : Int)⟩ : A_l_rline) rfl (by (try dsimp only [pre_l_rline]) ; exact ⟨q3, by omega, by omega, (by simp ; omega), q7, q8⟩) fun r5 hi16 => ?_
  dsimp only [po_l_rline] at hi16
  refine mI (by (try simp only [List.length_append, List.length_map, List.length_cons, List.length_nil]) ; omega) ?_
  exact fin_rline hK ⟨r5.r ++ (([10] : List Nat).map UInt8.ofNat)⟩ (by dsimp only [po_rline] <;> (exact lenEq (by have e9 := hi16.1 ; simp only [Int.toNat_zero, List.drop_zero] at e9 ; rw [e9] ; first | simp [lineT, wordT, numsT, Lib.joinTail, hkd] | (simp_all [lineT, wordT, numsT, Lib.joinTail] ; done)) q6))
  refine iI (fun hc17 => ?_) (fun hc17 => ?_)
  refine mI (by simp only [InR] ; omega) (mI (by simp only [InR] ; omega) (mI (by (try simp only [List.length_append, List.length_map, List.length_cons, List.length_nil]) ; omega) ?_))
  refine callPR (⟨(8 : Int), p.o.x, p.o.y, p.o.i, p.o.at_, p.o.mode, p.o.mask, p.o.grp, p.o.hp, p.o.ps, (([99, 114, 97, 115, 104, 32] : List Nat).map UInt8.ofNat) ++ (Lib.itoa p.o.x), (0 : Int)⟩ : A_l_rline) rfl (by (try dsimp only [pre_l_rline]) ; exact ⟨q3, by omega, by omega, (by simp ; omega), q7, q8⟩) fun r4 hi18 => ?_
  dsimp only [po_l_rline] at hi18
  refine mI (by (try simp only [List.length_append, List.length_map, List.length_cons, List.length_nil]) ; omega) ?_
  exact fin_rline hK ⟨r4.r ++ (([10] : List Nat).map UInt8.ofNat)⟩ (by dsimp only [po_rline] <;> (exact lenEq (by have e9 := hi18.1 ; simp only [Int.toNat_zero, List.drop_zero] at e9 ; rw [e9] ; first | simp [lineT, wordT, numsT, Lib.joinTail, hkd] | (simp_all [lineT, wordT, numsT, Lib.joinTail] ; done)) q6))
  refine iI (fun hc19 => ?_) (fun hc19 => ?_)
  refine mI (by simp only [InR] ; omega) (mI (by simp only [InR] ; omega) (mI (by (try simp only [List.length_append, List.length_map, List.length_cons, List.length_nil]) ; omega) ?_))
  refine callPR (⟨(9 : Int), p.o.x, p.o.y, p.o.i, p.o.at_, p.o.mode, p.o.mask, p.o.grp, p.o.hp, p.o.ps, (([114, 101, 115, 116, 97, 114, 116, 32] : List Nat).map UInt8.ofNat) ++ (Lib.itoa p.o.x), (0 : Int)⟩ : A_l_rline) rfl (by (try dsimp only [pre_l_rline]) ; exact ⟨q3, by omega, by omega, (by simp ; omega), q7, q8⟩) fun r3 hi20 => ?_
  dsimp only [po_l_rline] at hi20
  refine mI (by (try simp only [List.length_append, List.length_map, List.length_cons, List.length_nil]) ; omega) ?_
  exact fin_rline hK ⟨r3.r ++ (([10] : List Nat).map UInt8.ofNat)⟩ (by dsimp only [po_rline] <;> (exact lenEq (by have e9 := hi20.1 ; simp only [Int.toNat_zero, List.drop_zero] at e9 ; rw [e9] ; first | simp [lineT, wordT, numsT, Lib.joinTail, hkd] | (simp_all [lineT, wordT, numsT, Lib.joinTail] ; done)) q6))
  refine iI (fun hc21 => ?_) (fun hc21 => ?_)
  refine mI (by simp only [InR] ; omega) (mI (by simp only [InR] ; omega) (mI (by (try simp only [List.length_append, List.length_map, List.length_cons, List.length_nil]) ; omega) ?_))
  refine callPR (⟨(10 : Int), p.o.x, p.o.y, p.o.i, p.o.at_, p.o.mode, p.o.mask, p.o.grp, p.o.hp, p.o.ps, (([106, 111, 105, 110, 32] : List Nat).map UInt8.ofNat) ++ (Lib.itoa p.o.x), (0 : Int)⟩ : A_l_rline) rfl (by (try dsimp only [pre_l_rline]) ; exact ⟨q3, by omega, by omega, (by simp ; omega), q7, q8⟩) fun r2 hi22 => ?_
  dsimp only [po_l_rline] at hi22
  refine mI (by (try simp only [List.length_append, List.length_map, List.length_cons, List.length_nil]) ; omega) ?_
  exact fin_rline hK ⟨r2.r ++ (([10] : List Nat).map UInt8.ofNat)⟩ (by dsimp only [po_rline] <;> (exact lenEq (by have e9 := hi22.1 ; simp only [Int.toNat_zero, List.drop_zero] at e9 ; rw [e9] ; first | simp [lineT, wordT, numsT, Lib.joinTail, hkd] | (simp_all [lineT, wordT, numsT, Lib.joinTail] ; done)) q6))
  refine iI (fun hc23 => ?_) (fun hc23 => ?_)
  refine mI (by simp only [InR] ; omega) (mI (by simp only [InR] ; omega) (mI (by (try simp only [List.length_append, List.length_map, List.length_cons, List.length_nil]) ; omega) ?_))
  refine callPR (⟨(11 : Int), p.o.x, p.o.y, p.o.i, p.o.at_, p.o.mode, p.o.mask, p.o.grp, p.o.hp, p.o.ps, (([108, 101, 97, 118, 101, 32] : List Nat).map UInt8.ofNat) ++ (Lib.itoa p.o.x), (0 : Int)⟩ : A_l_rline) rfl (by (try dsimp only [pre_l_rline]) ; exact ⟨q3, by omega, by omega, (by simp ; omega), q7, q8⟩) fun r1 hi24 => ?_
  dsimp only [po_l_rline] at hi24
  refine mI (by (try simp only [List.length_append, List.length_map, List.length_cons, List.length_nil]) ; omega) ?_
  exact fin_rline hK ⟨r1.r ++ (([10] : List Nat).map UInt8.ofNat)⟩ (by dsimp only [po_rline] <;> (exact lenEq (by have e9 := hi24.1 ; simp only [Int.toNat_zero, List.drop_zero] at e9 ; rw [e9] ; first | simp [lineT, wordT, numsT, Lib.joinTail, hkd] | (simp_all [lineT, wordT, numsT, Lib.joinTail] ; done)) q6))
  refine mI (by omega) ?_
  rfl
noncomputable def nat_rline := natC nat_line 0 (esOf I_rline (spP pre_rline out_rline)) 25 [(0, 15)]
theorem nat_rline_ok : NatsOk Tryd.prog nat_rline := natC_ok (natE_said (f := 25) (k := 0) (lp := lp_rline) (lf := 600) ts_mix (cfT_ok nat_line_ok) ft_rline_ok (by rfl) (fun b j x h => (mem_step lo_l_rline (fun h => (by cases h)) h)) fun p K h => vf_rline p K (mustP_ok h).1 (mustP_ok h).2) nat_line_ok
theorem var_ok {b x y : Bool} (h : (Bool.rec (motive := fun _ => Bool) x y b) = true) : (b = true ∧ y = true) ∨ (b = false ∧ x = true) := by cases b; exact .inr ⟨rfl, h⟩; exact .inl ⟨rfl, h⟩
noncomputable def groupT (g : GrR) : List UInt8 := [103, 114, 111, 117, 112, 32] ++ (Lib.itoa g.f ++ 32 :: (Lib.itoa g.s ++ @ite _ g.c (Classical.propDecidable _) [32, 99, 104, 101, 99, 107, 10] [32, 112, 108, 97, 105, 110, 10]))
theorem groupT_pos {g : GrR} (h : g.c) : groupT g = [103, 114, 111, 117, 112, 32] ++ (Lib.itoa g.f ++ 32 :: (Lib.itoa g.s ++ [32, 99, 104, 101, 99, 107, 10])) := by unfold groupT; rw [if_pos h]
theorem groupT_neg {g : GrR} (h : ¬ g.c) : groupT g = [103, 114, 111, 117, 112, 32] ++ (Lib.itoa g.f ++ 32 :: (Lib.itoa g.s ++ [32, 112, 108, 97, 105, 110, 10])) := by unfold groupT; rw [if_neg h]
noncomputable def headT (gs : List GrR) (clients window deadline pace again bag first : Int) : List UInt8 := (gs.map groupT).flatten ++ ([99, 108, 105, 101, 110, 116, 115, 32] ++ Lib.itoa clients ++ [10]) ++ ([119, 105, 110, 100, 111, 119, 32] ++ Lib.itoa window ++ [10]) ++ ([100, 101, 97, 100, 108, 105, 110, 101, 32] ++ Lib.itoa deadline ++ [10]) ++ ([112, 97, 99, 101, 32] ++ Lib.itoa pace ++ [10]) ++ ([97, 103, 97, 105, 110, 32] ++ Lib.itoa again ++ [10]) ++ ([98, 97, 103, 32] ++ Lib.itoa bag ++ [10]) ++ ([102, 105, 114, 115, 116, 32] ++ Lib.itoa first ++ [10])
theorem jg_step {gs : List GrR} {i : Int} {x : GrR} {b r t : List UInt8} (h0 : 0 ≤ i) (hx : gs[i.toNat]? = some x) (hs : t = b ++ groupT x) (h : r = t ++ ((gs.drop (i + 1).toNat).map groupT).flatten) : r = b ++ ((gs.drop i.toNat).map groupT).flatten := by
  rw [h, drop_step h0 hx, hs]; simp
theorem out_weak2 {α β : Type} {P : α → Prop} {Q : β → Prop} {K : α → Bool} (f : β → α) (h : (allB fun r => iP (P r) (K r) true) = true) (hw : ∀ r, Q r → P (f r)) : (allB fun r => iP (Q r) (K (f r)) true) = true := allB_mk fun r => iI (fun hz => ifB_use (hw r hz) (allB_ok h (f r))) (fun _ => rfl)
noncomputable def isRow (M : T) (i : Nat) : Nat := Option.casesOn (M.get i) 0 fun o => AObj.casesOn o (fun _ _ _ _ => 0) (fun _ _ => 0) (fun _ _ _ _ => 0) 0 (fun _ _ _ _ _ => 1)
def ft_head : XF := .mk 58 (.one 2) (.aft (.seq (g_ 2 [e_ 0 1 (.box 36 (.t 0)), p_ 1 2 (.mv (.c (.str [])))]) (.seq (g_ 1 [e_ 0 3 (.al 56 [.nilP, .nilS])]) (.seq (.seq (g_ 4 [p_ 0 9 (f_ 0 1), r_ 1 10 (l_ 9), p_ 2 11 (k_ 10), p_ 3 12 (.mv (i_ 0))]) (.block 2 (.pre [.can 0 [1, 3, 10, 11, 12], .up 11, .up 12, .can 0 [1, 3, 10, 11, 12]] (.inv 0 (.aft (.seq (g_ 1 [p_ 0 13 (.bin 3 0 (.t 12) (.t 11))]) (.seq (.cond (.t 13) .skip (.exit 2)) (.seq (.block 3 (.seq (g_ 4 [p_ 0 14 (.ixs 3 (.t 10) (.t 12)), r_ 1 15 (.ld true 3 (.t 14)), e_ 2 5 (.al 73 [.int 0 (.ofNat 0), .int 0 (.ofNat 0), .bool false]), e0_ 3 (.st 3 (.t 5) (.t 15))]) (.seq (g_ 1 [p_ 0 6 (.mv (.c (.str [112, 108, 97, 105, 110])))]) (.seq (.seq (g_ 2 [p_ 0 16 (f_ 2 5), r_ 1 17 (l_ 16)]) (.cond (.t 17) (g_ 1 [p_ 0 6 (.mv (.c (.str [99, 104, 101, 99, 107])))]) .skip)) (h_ 14 [p_ 0 18 (f_ 0 5), r_ 1 19 (l_ 18), p_ 5 23 (f_ 1 5), r_ 6 24 (l_ 23), p_ 10 28 (m_ 6), c_ 2 20 40 [.t 19], a_ 6 24 (l_ 23), p_ 3 21 (.bin 4 0 (.c (.str [103, 114, 111, 117, 112, 32])) (.t 20)), p_ 4 22 (.bin 4 0 (.t 21) (.c (.str [32]))), c_ 7 25 40 [.t 24], p_ 8 26 (.bin 4 0 (.t 22) (.t 25)), p_ 9 27 (.bin 4 0 (.t 26) (.c (.str [32]))), p_ 11 29 (.bin 4 0 (.t 27) (.t 28)), p_ 12 30 (.bin 4 0 (.t 29) (.c (.str [10]))), c_ 13 31 17 [.t 3, .t 30]]))))) (g_ 2 [p_ 0 32 (.bin 0 0 (.t 12) (i_ 1)), p_ 1 12 (m_ 32)])))) [(0, [.can 0 [1, 3, 10, 11, 12]]), (2, [.can 0 [1, 3]])]))))) (.seq (.seq (g_ 3 [c_ 0 33 27 [.t 1], p_ 1 34 (k_ 33), p_ 2 35 (.mv (i_ 0))]) (.block 4 (.loop [1, 2, 3, 8, 33, 34, 35, 36, 37, 38, 39, 40, 41, 42, 43, 44, 45, 46, 47, 48, 50, 51, 52, 53, 54, 55, 57] (.seq (g_ 1 [p_ 0 36 (.bin 3 0 (.t 35) (.t 34))]) (.seq (.cond (.t 36) .skip (.exit 4)) (.seq (.block 5 (.seq (g_ 4 [p_ 0 37 (.ixs 2 (.t 33) (.t 35)), r_ 1 38 (.ld true 2 (.t 37)), e_ 2 8 (.al 80 [.str [], .nilP]), e0_ 3 (.st 2 (.t 8) (.t 38))]) (h_ 11 [p_ 0 39 (f_ 0 8), r_ 1 40 (l_ 39), p_ 2 41 (.bin 4 0 (.t 40) (.c (.str [32]))), p_ 3 42 (f_ 1 8), r_ 4 43 (l_ 42), p_ 5 44 (n_ 43), r_ 6 45 (l_ 44), c_ 7 46 40 [.t 45], a_ 1 40 (l_ 39), p_ 8 47 (.bin 4 0 (.t 41) (.t 46)), p_ 9 48 (.bin 4 0 (.t 47) (.c (.str [10]))), c_ 10 49 17 [.t 3, .t 48]]))) (g_ 2 [p_ 0 50 (.bin 0 0 (.t 35) (i_ 1)), p_ 1 35 (m_ 50)]))))))) (.seq (g_ 6 [p_ 0 51 (f_ 7 1), r_ 1 52 (l_ 51), c_ 2 53 41 [.t 52, i_ 10], p_ 3 54 (.bin 4 0 (.c (.str [102, 105, 114, 115, 116, 32])) (.t 53)), p_ 4 55 (.bin 4 0 (.t 54) (.c (.str [10]))), c_ 5 56 17 [.t 3, .t 55]]) (.seq (g_ 2 [c_ 0 57 21 [.t 3], p_ 1 2 (m_ 57)]) .ret)))))) [(0, [.up 2]), (1, [.up 2])])
theorem ft_head_ok : chkF Tryd.prog 18 ft_head = true := by kernel_rfl
structure A_l_head0 where
  hg : Value
  gs : List GrR
  clients : Int
  window : Int
  deadline : Int
  pace : Int
  again : Int
  bag : Int
  first : Int
  i : Int
structure R_l_head0 where
  c : List UInt8
def po_l_head0 (p : A_l_head0) (r : R_l_head0) : Prop := r.c = ((p.gs.drop p.i.toNat).map groupT).flatten ∧ r.c.length ≤ 1000 ∧ r.c ≠ []
noncomputable def I_l_head0 (p : A_l_head0) : IL := ((.cons 12 (.sy (.int 0 p.i)) (.cons 11 (.sy (.int 0 (p.gs.length : Int))) (.cons 10 (.sy (.imm p.hg 3 GrR p.gs encG)) (.cons 3 (.ptr 1 0) (.cons 1 (.ptr 0 0) .nil))))), (.node (.node .leaf (some (.blk false 56 2 [[.nilP, .nilS]])) .leaf) (some (.blk false 36 8 [[.sy (.imm p.hg 3 GrR p.gs encG), .sy (.int 0 p.clients), .sy (.int 0 p.window), .sy (.int 0 p.deadline), .sy (.int 0 p.pace), .sy (.int 0 p.again), .sy (.int 0 p.bag), .sy (.int 4 p.first)]])) .leaf), 2)
noncomputable def out_l_head0 (p : A_l_head0) (K : KC) : Bool := allB fun r : R_l_head0 => iP (po_l_head0 p r) (K 2 (.cons 3 (.ptr 1 0) (.cons 1 (.ptr 0 0) .nil)) (.node (.node .leaf (some (.blk false 56 2 [[.ptr 1 0, .sy (.prow 2 r.c.length)]])) .leaf) (some (.blk false 36 8 [[.sy (.imm p.hg 3 GrR p.gs encG), .sy (.int 0 p.clients), .sy (.int 0 p.window), .sy (.int 0 p.deadline), .sy (.int 0 p.pace), .sy (.int 0 p.again), .sy (.int 0 p.bag), .sy (.int 4 p.first)]])) (.node .leaf (some (.prow 5 1 UInt8 r.c encU)) .leaf)) 3) true
def pre_l_head0 (p : A_l_head0) : Prop := p.i = 0 ∧ (1 ≤ p.gs.length ∧ p.gs.length ≤ 4) ∧ (∀ g ∈ p.gs, grR g)
noncomputable def sp_l_head0 (p : A_l_head0) (K : KC) : Bool := must (prB (pre_l_head0 p)) (out_l_head0 p K)
def mu_l_head0 (p : A_l_head0) : Nat := ((p.gs.length : Int) - p.i).toNat
structure A_l_head1 where
  hg : Value
  gs : List GrR
  clients : Int
  window : Int
  deadline : Int
  pace : Int
  again : Int
  bag : Int
  first : Int
  b : List UInt8
  i : Int
structure R_l_head1 where
  c : List UInt8
def po_l_head1 (p : A_l_head1) (r : R_l_head1) : Prop := r.c = p.b ++ ((p.gs.drop p.i.toNat).map groupT).flatten ∧ r.c.length ≤ 1000 ∧ r.c ≠ []
noncomputable def I_l_head1 (p : A_l_head1) : IL := ((.cons 12 (.sy (.int 0 p.i)) (.cons 11 (.sy (.int 0 (p.gs.length : Int))) (.cons 10 (.sy (.imm p.hg 3 GrR p.gs encG)) (.cons 3 (.ptr 1 0) (.cons 1 (.ptr 0 0) .nil))))), (.node (.node .leaf (some (.blk false 56 2 [[.ptr 1 0, .sy (.prow 2 p.b.length)]])) .leaf) (some (.blk false 36 8 [[.sy (.imm p.hg 3 GrR p.gs encG), .sy (.int 0 p.clients), .sy (.int 0 p.window), .sy (.int 0 p.deadline), .sy (.int 0 p.pace), .sy (.int 0 p.again), .sy (.int 0 p.bag), .sy (.int 4 p.first)]])) (.node .leaf (some (.prow 5 1 UInt8 p.b encU)) .leaf)), 3)
noncomputable def out_l_head1 (p : A_l_head1) (K : KC) : Bool := allB fun r : R_l_head1 => iP (po_l_head1 p r) (K 2 (.cons 3 (.ptr 1 0) (.cons 1 (.ptr 0 0) .nil)) (.node (.node .leaf (some (.blk false 56 2 [[.ptr 1 0, .sy (.prow 2 r.c.length)]])) .leaf) (some (.blk false 36 8 [[.sy (.imm p.hg 3 GrR p.gs encG), .sy (.int 0 p.clients), .sy (.int 0 p.window), .sy (.int 0 p.deadline), .sy (.int 0 p.pace), .sy (.int 0 p.again), .sy (.int 0 p.bag), .sy (.int 4 p.first)]])) (.node .leaf (some (.prow 5 1 UInt8 r.c encU)) .leaf)) 3) true
def pre_l_head1 (p : A_l_head1) : Prop := 0 ≤ p.i ∧ p.i ≤ (p.gs.length : Int) ∧ p.gs.length ≤ 4 ∧ (∀ g ∈ p.gs, grR g) ∧ (p.b.length : Int) ≤ 200 * p.i ∧ p.b ≠ []
theorem fin_l_head1 {p : A_l_head1} {K : KC} (hK : out_l_head1 p K = true) (r : R_l_head1) (h : po_l_head1 p r) : K 2 (.cons 3 (.ptr 1 0) (.cons 1 (.ptr 0 0) .nil)) (.node (.node .leaf (some (.blk false 56 2 [[.ptr 1 0, .sy (.prow 2 r.c.length)]])) .leaf) (some (.blk false 36 8 [[.sy (.imm p.hg 3 GrR p.gs encG), .sy (.int 0 p.clients), .sy (.int 0 p.window), .sy (.int 0 p.deadline), .sy (.int 0 p.pace), .sy (.int 0 p.again), .sy (.int 0 p.bag), .sy (.int 4 p.first)]])) (.node .leaf (some (.prow 5 1 UInt8 r.c encU)) .leaf)) 3 = true := ifB_use h (allB_ok hK r)
noncomputable def sp_l_head1 (p : A_l_head1) (K : KC) : Bool := must (prB (pre_l_head1 p)) (out_l_head1 p K)
def mu_l_head1 (p : A_l_head1) : Nat := ((p.gs.length : Int) - p.i).toNat
noncomputable def lpv_l_head (S : SL) (M : T) (nx : Nat) (K : KC) : Bool := (Bool.rec (Bool.rec false (exB fun p : A_l_head1 => must (prB ((S, M, nx) = I_l_head1 p)) (sp_l_head1 p K)) (Nat.beq (isRow M 2) 1)) (exB fun p : A_l_head0 => must (prB ((S, M, nx) = I_l_head0 p)) (sp_l_head0 p K)) (Nat.beq (isRow M 2) 0))
inductive A_l_head where
  | v0 (p : A_l_head0)
  | v1 (p : A_l_head1)
noncomputable def I_l_head (q : A_l_head) : IL := A_l_head.casesOn q (fun p => I_l_head0 p) (fun p => I_l_head1 p)
def mu_l_head : A_l_head → Nat
  | .v0 p => mu_l_head0 p
  | .v1 p => mu_l_head1 p
noncomputable def sp_l_head (q : A_l_head) (K : KC) : Bool := A_l_head.casesOn q (fun p => sp_l_head0 p K) (fun p => sp_l_head1 p K)
noncomputable def kk_l_head (n : Nat) (K : KC) : KC := fun e S M nx => Nat.casesOn e (exB fun q : A_l_head => must (prB ((S, M, nx) = I_l_head q ∧ mu_l_head q < n)) (sp_l_head q K)) (fun e2 => K (Nat.succ e2) S M nx)
theorem bx_l_head1 {n : Nat} {q : A_l_head1} {K : KC} {s : IL} (hm : mu_l_head1 q < n) (hp : pre_l_head1 q) (hK : out_l_head1 q K = true) (e : s = I_l_head1 q) : (exB fun q => mP (s = I_l_head q ∧ mu_l_head q < n) (sp_l_head q K)) = true := exB_mk (.v1 q) (mustP ⟨e, hm⟩ (mustP hp hK))
theorem bk_l_head1 {p q : A_l_head1} {K : KC} {s : IL} (hm : mu_l_head1 q < mu_l_head1 p) (hp : pre_l_head1 q) (hK : out_l_head1 q K = true) (e : s = I_l_head1 q) : (exB fun q => mP (s = I_l_head q ∧ mu_l_head q < mu_l_head (.v1 p)) (sp_l_head q K)) = true := exB_mk (.v1 q) (mustP ⟨e, hm⟩ (mustP hp hK))
noncomputable def lp_head : LpF := fun j S M nx K => (Bool.rec (false) (lpv_l_head S M nx K) (Nat.beq j 0))
def bd_l_head : XC := (.aft (.seq (g_ 1 [p_ 0 13 (.bin 3 0 (.t 12) (.t 11))]) (.seq (.cond (.t 13) .skip (.exit 2)) (.seq (.block 3 (.seq (g_ 4 [p_ 0 14 (.ixs 3 (.t 10) (.t 12)), r_ 1 15 (.ld true 3 (.t 14)), e_ 2 5 (.al 73 [.int 0 (.ofNat 0), .int 0 (.ofNat 0), .bool false]), e0_ 3 (.st 3 (.t 5) (.t 15))]) (.seq (g_ 1 [p_ 0 6 (.mv (.c (.str [112, 108, 97, 105, 110])))]) (.seq (.seq (g_ 2 [p_ 0 16 (f_ 2 5), r_ 1 17 (l_ 16)]) (.cond (.t 17) (g_ 1 [p_ 0 6 (.mv (.c (.str [99, 104, 101, 99, 107])))]) .skip)) (h_ 14 [p_ 0 18 (f_ 0 5), r_ 1 19 (l_ 18), p_ 5 23 (f_ 1 5), r_ 6 24 (l_ 23), p_ 10 28 (m_ 6), c_ 2 20 40 [.t 19], a_ 6 24 (l_ 23), p_ 3 21 (.bin 4 0 (.c (.str [103, 114, 111, 117, 112, 32])) (.t 20)), p_ 4 22 (.bin 4 0 (.t 21) (.c (.str [32]))), c_ 7 25 40 [.t 24], p_ 8 26 (.bin 4 0 (.t 22) (.t 25)), p_ 9 27 (.bin 4 0 (.t 26) (.c (.str [32]))), p_ 11 29 (.bin 4 0 (.t 27) (.t 28)), p_ 12 30 (.bin 4 0 (.t 29) (.c (.str [10]))), c_ 13 31 17 [.t 3, .t 30]]))))) (g_ 2 [p_ 0 32 (.bin 0 0 (.t 12) (i_ 1)), p_ 1 12 (m_ 32)])))) [(0, [.can 0 [1, 3, 10, 11, 12]]), (2, [.can 0 [1, 3]])])
theorem vb_l_head0 (p : A_l_head0) (K : KC) (hpre : pre_l_head0 p) (hK : out_l_head0 p K = true) : (codeX (cfT nat_rline) lp_head 600 bd_l_head (I_l_head0 p).1 (I_l_head0 p).2.1 (I_l_head0 p).2.2 (kk_l_head (mu_l_head (.v0 p)) K)) = true := by
  refine Eq.trans (b := (iP (p.i < (p.gs.length : Int)) (mP (0 ≤ p.i ∧ p.i < (p.gs.length : Int)) (allB fun x1 : GrR => iP (p.gs[p.i.toNat]? = some x1) (iP (x1.c) (mP (InR 0 x1.f) (mP (((.int 0 x1.s) : SY) = (.int 0 x1.s)) (mP ((([103, 114, 111, 117, 112, 32] : List Nat).map UInt8.ofNat).length + (Lib.itoa x1.f).length ≤ 9223372036854775807) (mP (((([103, 114, 111, 117, 112, 32] : List Nat).map UInt8.ofNat) ++ (Lib.itoa x1.f)).length + (([32] : List Nat).map UInt8.ofNat).length ≤ 9223372036854775807) (mP (InR 0 x1.s) (mP ((((([103, 114, 111, 117, 112, 32] : List Nat).map UInt8.ofNat) ++ (Lib.itoa x1.f)) ++ (([32] : List Nat).map UInt8.ofNat)).length + (Lib.itoa x1.s).length ≤ 9223372036854775807) (mP (((((([103, 114, 111, 117, 112, 32] : List Nat).map UInt8.ofNat) ++ (Lib.itoa x1.f)) ++ (([32] : List Nat).map UInt8.ofNat)) ++ (Lib.itoa x1.s)).length + (([32] : List Nat).map UInt8.ofNat).length ≤ 9223372036854775807) (mP ((((((([103, 114, 111, 117, 112, 32] : List Nat).map UInt8.ofNat) ++ (Lib.itoa x1.f)) ++ (([32] : List Nat).map UInt8.ofNat)) ++ (Lib.itoa x1.s)) ++ (([32] : List Nat).map UInt8.ofNat)).length + (([99, 104, 101, 99, 107] : List Nat).map UInt8.ofNat).length ≤ 9223372036854775807) (mP (((((((([103, 114, 111, 117, 112, 32] : List Nat).map UInt8.ofNat) ++ (Lib.itoa x1.f)) ++ (([32] : List Nat).map UInt8.ofNat)) ++ (Lib.itoa x1.s)) ++ (([32] : List Nat).map UInt8.ofNat)) ++ (([99, 104, 101, 99, 107] : List Nat).map UInt8.ofNat)).length + (([10] : List Nat).map UInt8.ofNat).length ≤ 9223372036854775807) (mP (([] : List UInt8).length + (((((((([103, 114, 111, 117, 112, 32] : List Nat).map UInt8.ofNat) ++ (Lib.itoa x1.f)) ++ (([32] : List Nat).map UInt8.ofNat)) ++ (Lib.itoa x1.s)) ++ (([32] : List Nat).map UInt8.ofNat)) ++ (([99, 104, 101, 99, 107] : List Nat).map UInt8.ofNat)) ++ (([10] : List Nat).map UInt8.ofNat)).length ≤ 140737488355328) (mP (InR 0 (p.i + (1 : Int))) (exB fun q1 : A_l_head => mP (((.cons 12 (.sy (.int 0 (p.i + (1 : Int)))) (.cons 11 (.sy (.int 0 (p.gs.length : Int))) (.cons 10 (.sy (.imm p.hg 3 GrR p.gs encG)) (.cons 3 (.ptr 1 0) (.cons 1 (.ptr 0 0) .nil))))), (.node (.node .leaf (some (.blk false 56 2 [[.ptr 1 0, .sy (.prow 2 ((([] : List UInt8) ++ (((((((([103, 114, 111, 117, 112, 32] : List Nat).map UInt8.ofNat) ++ (Lib.itoa x1.f)) ++ (([32] : List Nat).map UInt8.ofNat)) ++ (Lib.itoa x1.s)) ++ (([32] : List Nat).map UInt8.ofNat)) ++ (([99, 104, 101, 99, 107] : List Nat).map UInt8.ofNat)) ++ (([10] : List Nat).map UInt8.ofNat))).length))]])) .leaf) (some (.blk false 36 8 [[.sy (.imm p.hg 3 GrR p.gs encG), .sy (.int 0 p.clients), .sy (.int 0 p.window), .sy (.int 0 p.deadline), .sy (.int 0 p.pace), .sy (.int 0 p.again), .sy (.int 0 p.bag), .sy (.int 4 p.first)]])) (.node .leaf (some (.prow 5 1 UInt8 (([] : List UInt8) ++ (((((((([103, 114, 111, 117, 112, 32] : List Nat).map UInt8.ofNat) ++ (Lib.itoa x1.f)) ++ (([32] : List Nat).map UInt8.ofNat)) ++ (Lib.itoa x1.s)) ++ (([32] : List Nat).map UInt8.ofNat)) ++ (([99, 104, 101, 99, 107] : List Nat).map UInt8.ofNat)) ++ (([10] : List Nat).map UInt8.ofNat))) encU)) .leaf)), 3) = I_l_head q1 ∧ mu_l_head q1 < mu_l_head (.v0 p)) (sp_l_head q1 K))))))))))))) (mP (InR 0 x1.f) (mP (((.int 0 x1.s) : SY) = (.int 0 x1.s)) (mP ((([103, 114, 111, 117, 112, 32] : List Nat).map UInt8.ofNat).length + (Lib.itoa x1.f).length ≤ 9223372036854775807) (mP (((([103, 114, 111, 117, 112, 32] : List Nat).map UInt8.ofNat) ++ (Lib.itoa x1.f)).length + (([32] : List Nat).map UInt8.ofNat).length ≤ 9223372036854775807) (mP (InR 0 x1.s) (mP ((((([103, 114, 111, 117, 112, 32] : List Nat).map UInt8.ofNat) ++ (Lib.itoa x1.f)) ++ (([32] : List Nat).map UInt8.ofNat)).length + (Lib.itoa x1.s).length ≤ 9223372036854775807) (mP (((((([103, 114, 111, 117, 112, 32] : List Nat).map UInt8.ofNat) ++ (Lib.itoa x1.f)) ++ (([32] : List Nat).map UInt8.ofNat)) ++ (Lib.itoa x1.s)).length + (([32] : List Nat).map UInt8.ofNat).length ≤ 9223372036854775807) (mP ((((((([103, 114, 111, 117, 112, 32] : List Nat).map UInt8.ofNat) ++ (Lib.itoa x1.f)) ++ (([32] : List Nat).map UInt8.ofNat)) ++ (Lib.itoa x1.s)) ++ (([32] : List Nat).map UInt8.ofNat)).length + (([112, 108, 97, 105, 110] : List Nat).map UInt8.ofNat).length ≤ 9223372036854775807) (mP (((((((([103, 114, 111, 117, 112, 32] : List Nat).map UInt8.ofNat) ++ (Lib.itoa x1.f)) ++ (([32] : List Nat).map UInt8.ofNat)) ++ (Lib.itoa x1.s)) ++ (([32] : List Nat).map UInt8.ofNat)) ++ (([112, 108, 97, 105, 110] : List Nat).map UInt8.ofNat)).length + (([10] : List Nat).map UInt8.ofNat).length ≤ 9223372036854775807) (mP (([] : List UInt8).length + (((((((([103, 114, 111, 117, 112, 32] : List Nat).map UInt8.ofNat) ++ (Lib.itoa x1.f)) ++ (([32] : List Nat).map UInt8.ofNat)) ++ (Lib.itoa x1.s)) ++ (([32] : List Nat).map UInt8.ofNat)) ++ (([112, 108, 97, 105, 110] : List Nat).map UInt8.ofNat)) ++ (([10] : List Nat).map UInt8.ofNat)).length ≤ 140737488355328) (mP (InR 0 (p.i + (1 : Int))) (exB fun q2 : A_l_head => mP (((.cons 12 (.sy (.int 0 (p.i + (1 : Int)))) (.cons 11 (.sy (.int 0 (p.gs.length : Int))) (.cons 10 (.sy (.imm p.hg 3 GrR p.gs encG)) (.cons 3 (.ptr 1 0) (.cons 1 (.ptr 0 0) .nil))))), (.node (.node .leaf (some (.blk false 56 2 [[.ptr 1 0, .sy (.prow 2 ((([] : List UInt8) ++ (((((((([103, 114, 111, 117, 112, 32] : List Nat).map UInt8.ofNat) ++ (Lib.itoa x1.f)) ++ (([32] : List Nat).map UInt8.ofNat)) ++ (Lib.itoa x1.s)) ++ (([32] : List Nat).map UInt8.ofNat)) ++ (([112, 108, 97, 105, 110] : List Nat).map UInt8.ofNat)) ++ (([10] : List Nat).map UInt8.ofNat))).length))]])) .leaf) (some (.blk false 36 8 [[.sy (.imm p.hg 3 GrR p.gs encG), .sy (.int 0 p.clients), .sy (.int 0 p.window), .sy (.int 0 p.deadline), .sy (.int 0 p.pace), .sy (.int 0 p.again), .sy (.int 0 p.bag), .sy (.int 4 p.first)]])) (.node .leaf (some (.prow 5 1 UInt8 (([] : List UInt8) ++ (((((((([103, 114, 111, 117, 112, 32] : List Nat).map UInt8.ofNat) ++ (Lib.itoa x1.f)) ++ (([32] : List Nat).map UInt8.ofNat)) ++ (Lib.itoa x1.s)) ++ (([32] : List Nat).map UInt8.ofNat)) ++ (([112, 108, 97, 105, 110] : List Nat).map UInt8.ofNat)) ++ (([10] : List Nat).map UInt8.ofNat))) encU)) .leaf)), 3) = I_l_head q2 ∧ mu_l_head q2 < mu_l_head (.v0 p)) (sp_l_head q2 K)))))))))))))) true)) (K 2 (.cons 3 (.ptr 1 0) (.cons 1 (.ptr 0 0) .nil)) (.node (.node .leaf (some (.blk false 56 2 [[.nilP, .nilS]])) .leaf) (some (.blk false 36 8 [[.sy (.imm p.hg 3 GrR p.gs encG), .sy (.int 0 p.clients), .sy (.int 0 p.window), .sy (.int 0 p.deadline), .sy (.int 0 p.pace), .sy (.int 0 p.again), .sy (.int 0 p.bag), .sy (.int 4 p.first)]])) .leaf) 2))) (by kernel_rfl) ?_
  dsimp only [pre_l_head0] at hpre
  obtain ⟨g0, g1, gg⟩ := hpre
  refine iI (fun hc1 => ?_) (fun hc1 => ?_)
  refine mI (by first | omega | (constructor <;> omega)) ?_
  refine allB_mk (fun x1 => ?_)
  refine iI (fun hi2 => ?_) (fun _ => rfl)
  have hg_x1 : (0 ≤ x1.f ∧ x1.f ≤ 1099511627776) ∧ (0 ≤ x1.s ∧ x1.s ≤ 1099511627776) := gg _ (List.mem_of_getElem? (by assumption : p.gs[p.i.toNat]? = some x1))
  have hf_x1 := itoaU (z := x1.f) hg_x1.1.1 (by omega)
  have hs_x1 := itoaU (z := x1.s) hg_x1.2.1 (by omega)
  refine iI (fun hc3 => ?_) (fun hc3 => ?_)
  refine mI (by simp only [InR] ; omega) (mI (rfl) (mI (by (try simp only [List.length_append, List.length_map, List.length_cons, List.length_nil]) ; omega) (mI (by (try simp only [List.length_append, List.length_map, List.length_cons, List.length_nil]) ; omega) (mI (by simp only [InR] ; omega) (mI (by (try simp only [List.length_append, List.length_map, List.length_cons, List.length_nil]) ; omega) ?_)))))
  refine mI (by (try simp only [List.length_append, List.length_map, List.length_cons, List.length_nil]) ; omega) (mI (by (try simp only [List.length_append, List.length_map, List.length_cons, List.length_nil]) ; omega) (mI (by (try simp only [List.length_append, List.length_map, List.length_cons, List.length_nil]) ; omega) (mI (by (try simp only [List.length_append, List.length_map, List.length_cons, List.length_nil]) ; omega) ?_)))
  refine mI (by simp only [InR] ; omega) ?_
  exact bx_l_head1 (n := mu_l_head (.v0 p)) (q := ⟨p.hg, p.gs, p.clients, p.window, p.deadline, p.pace, p.again, p.bag, p.first, ([] : List UInt8) ++ (((((((([103, 114, 111, 117, 112, 32] : List Nat).map UInt8.ofNat) ++ (Lib.itoa x1.f)) ++ (([32] : List Nat).map UInt8.ofNat)) ++ (Lib.itoa x1.s)) ++ (([32] : List Nat).map UInt8.ofNat)) ++ (([99, 104, 101, 99, 107] : List Nat).map UInt8.ofNat)) ++ (([10] : List Nat).map UInt8.ofNat)), p.i + (1 : Int)⟩) (by show mu_l_head1 _ < mu_l_head0 p ; dsimp only [mu_l_head1, mu_l_head0] ; omega) (by dsimp only [pre_l_head1] ; (exact ⟨by omega, by omega, by omega, gg, (by (try simp only [List.length_append, List.length_map, List.length_cons, List.length_nil]) ; omega), by simp⟩)) (out_weak2 (fun r : R_l_head1 => (⟨r.c⟩ : R_l_head0)) hK fun r hz => ⟨by have e := jg_step (b := []) (by omega) (by assumption) (by first | (rw [groupT_pos (by assumption)] ; simp ; done) | (rw [groupT_neg (by assumption)] ; simp ; done)) hz.1 ; simpa using e, hz.2⟩) rfl
  refine mI (by simp only [InR] ; omega) (mI (rfl) (mI (by (try simp only [List.length_append, List.length_map, List.length_cons, List.length_nil]) ; omega) (mI (by (try simp only [List.length_append, List.length_map, List.length_cons, List.length_nil]) ; omega) (mI (by simp only [InR] ; omega) (mI (by (try simp only [List.length_append, List.length_map, List.length_cons, List.length_nil]) ; omega) ?_)))))
  refine mI (by (try simp only [List.length_append, List.length_map, List.length_cons, List.length_nil]) ; omega) (mI (by (try simp only [List.length_append, List.length_map, List.length_cons, List.length_nil]) ; omega) (mI (by (try simp only [List.length_append, List.length_map, List.length_cons, List.length_nil]) ; omega) (mI (by (try simp only [List.length_append, List.length_map, List.length_cons, List.length_nil]) ; omega) ?_)))
  refine mI (by simp only [InR] ; omega) ?_
  exact bx_l_head1 (n := mu_l_head (.v0 p)) (q := ⟨p.hg, p.gs, p.clients, p.window, p.deadline, p.pace, p.again, p.bag, p.first, ([] : List UInt8) ++ (((((((([103, 114, 111, 117, 112, 32] : List Nat).map UInt8.ofNat) ++ (Lib.itoa x1.f)) ++ (([32] : List Nat).map UInt8.ofNat)) ++ (Lib.itoa x1.s)) ++ (([32] : List Nat).map UInt8.ofNat)) ++ (([112, 108, 97, 105, 110] : List Nat).map UInt8.ofNat)) ++ (([10] : List Nat).map UInt8.ofNat)), p.i + (1 : Int)⟩) (by show mu_l_head1 _ < mu_l_head0 p ; dsimp only [mu_l_head1, mu_l_head0] ; omega) (by dsimp only [pre_l_head1] ; (exact ⟨by omega, by omega, by omega, gg, (by (try simp only [List.length_append, List.length_map, List.length_cons, List.length_nil]) ; omega), by simp⟩)) (out_weak2 (fun r : R_l_head1 => (⟨r.c⟩ : R_l_head0)) hK fun r hz => ⟨by have e := jg_step (b := []) (by omega) (by assumption) (by first | (rw [groupT_pos (by assumption)] ; simp ; done) | (rw [groupT_neg (by assumption)] ; simp ; done)) hz.1 ; simpa using e, hz.2⟩) rfl
  exfalso ; omega
theorem vb_l_head1 (p : A_l_head1) (K : KC) (hpre : pre_l_head1 p) (hK : out_l_head1 p K = true) : (codeX (cfT nat_rline) lp_head 600 bd_l_head (I_l_head1 p).1 (I_l_head1 p).2.1 (I_l_head1 p).2.2 (kk_l_head (mu_l_head (.v1 p)) K)) = true := by
  refine Eq.trans (b := (iP (p.i < (p.gs.length : Int)) (mP (0 ≤ p.i ∧ p.i < (p.gs.length : Int)) (allB fun x1 : GrR => iP (p.gs[p.i.toNat]? = some x1) (iP (x1.c) (mP (InR 0 x1.f) (mP (((.int 0 x1.s) : SY) = (.int 0 x1.s)) (mP ((([103, 114, 111, 117, 112, 32] : List Nat).map UInt8.ofNat).length + (Lib.itoa x1.f).length ≤ 9223372036854775807) (mP (((([103, 114, 111, 117, 112, 32] : List Nat).map UInt8.ofNat) ++ (Lib.itoa x1.f)).length + (([32] : List Nat).map UInt8.ofNat).length ≤ 9223372036854775807) (mP (InR 0 x1.s) (mP ((((([103, 114, 111, 117, 112, 32] : List Nat).map UInt8.ofNat) ++ (Lib.itoa x1.f)) ++ (([32] : List Nat).map UInt8.ofNat)).length + (Lib.itoa x1.s).length ≤ 9223372036854775807) (mP (((((([103, 114, 111, 117, 112, 32] : List Nat).map UInt8.ofNat) ++ (Lib.itoa x1.f)) ++ (([32] : List Nat).map UInt8.ofNat)) ++ (Lib.itoa x1.s)).length + (([32] : List Nat).map UInt8.ofNat).length ≤ 9223372036854775807) (mP ((((((([103, 114, 111, 117, 112, 32] : List Nat).map UInt8.ofNat) ++ (Lib.itoa x1.f)) ++ (([32] : List Nat).map UInt8.ofNat)) ++ (Lib.itoa x1.s)) ++ (([32] : List Nat).map UInt8.ofNat)).length + (([99, 104, 101, 99, 107] : List Nat).map UInt8.ofNat).length ≤ 9223372036854775807) (mP (((((((([103, 114, 111, 117, 112, 32] : List Nat).map UInt8.ofNat) ++ (Lib.itoa x1.f)) ++ (([32] : List Nat).map UInt8.ofNat)) ++ (Lib.itoa x1.s)) ++ (([32] : List Nat).map UInt8.ofNat)) ++ (([99, 104, 101, 99, 107] : List Nat).map UInt8.ofNat)).length + (([10] : List Nat).map UInt8.ofNat).length ≤ 9223372036854775807) (exB fun b1 : List UInt8 => mP (p.b.map encU = b1.map encU) (mP (p.b.length = b1.length) (mP (b1.length + (((((((([103, 114, 111, 117, 112, 32] : List Nat).map UInt8.ofNat) ++ (Lib.itoa x1.f)) ++ (([32] : List Nat).map UInt8.ofNat)) ++ (Lib.itoa x1.s)) ++ (([32] : List Nat).map UInt8.ofNat)) ++ (([99, 104, 101, 99, 107] : List Nat).map UInt8.ofNat)) ++ (([10] : List Nat).map UInt8.ofNat)).length ≤ 140737488355328) (mP (InR 0 (p.i + (1 : Int))) (exB fun q1 : A_l_head => mP (((.cons 12 (.sy (.int 0 (p.i + (1 : Int)))) (.cons 11 (.sy (.int 0 (p.gs.length : Int))) (.cons 10 (.sy (.imm p.hg 3 GrR p.gs encG)) (.cons 3 (.ptr 1 0) (.cons 1 (.ptr 0 0) .nil))))), (.node (.node .leaf (some (.blk false 56 2 [[.ptr 1 0, .sy (.prow 2 ((b1 ++ (((((((([103, 114, 111, 117, 112, 32] : List Nat).map UInt8.ofNat) ++ (Lib.itoa x1.f)) ++ (([32] : List Nat).map UInt8.ofNat)) ++ (Lib.itoa x1.s)) ++ (([32] : List Nat).map UInt8.ofNat)) ++ (([99, 104, 101, 99, 107] : List Nat).map UInt8.ofNat)) ++ (([10] : List Nat).map UInt8.ofNat))).length))]])) .leaf) (some (.blk false 36 8 [[.sy (.imm p.hg 3 GrR p.gs encG), .sy (.int 0 p.clients), .sy (.int 0 p.window), .sy (.int 0 p.deadline), .sy (.int 0 p.pace), .sy (.int 0 p.again), .sy (.int 0 p.bag), .sy (.int 4 p.first)]])) (.node .leaf (some (.prow 5 1 UInt8 (b1 ++ (((((((([103, 114, 111, 117, 112, 32] : List Nat).map UInt8.ofNat) ++ (Lib.itoa x1.f)) ++ (([32] : List Nat).map UInt8.ofNat)) ++ (Lib.itoa x1.s)) ++ (([32] : List Nat).map UInt8.ofNat)) ++ (([99, 104, 101, 99, 107] : List Nat).map UInt8.ofNat)) ++ (([10] : List Nat).map UInt8.ofNat))) encU)) .leaf)), 3) = I_l_head q1 ∧ mu_l_head q1 < mu_l_head (.v1 p)) (sp_l_head q1 K))))))))))))))) (mP (InR 0 x1.f) (mP (((.int 0 x1.s) : SY) = (.int 0 x1.s)) (mP ((([103, 114, 111, 117, 112, 32] : List Nat).map UInt8.ofNat).length + (Lib.itoa x1.f).length ≤ 9223372036854775807) (mP (((([103, 114, 111, 117, 112, 32] : List Nat).map UInt8.ofNat) ++ (Lib.itoa x1.f)).length + (([32] : List Nat).map UInt8.ofNat).length ≤ 9223372036854775807) (mP (InR 0 x1.s) (mP ((((([103, 114, 111, 117, 112, 32] : List Nat).map UInt8.ofNat) ++ (Lib.itoa x1.f)) ++ (([32] : List Nat).map UInt8.ofNat)).length + (Lib.itoa x1.s).length ≤ 9223372036854775807) (mP (((((([103, 114, 111, 117, 112, 32] : List Nat).map UInt8.ofNat) ++ (Lib.itoa x1.f)) ++ (([32] : List Nat).map UInt8.ofNat)) ++ (Lib.itoa x1.s)).length + (([32] : List Nat).map UInt8.ofNat).length ≤ 9223372036854775807) (mP ((((((([103, 114, 111, 117, 112, 32] : List Nat).map UInt8.ofNat) ++ (Lib.itoa x1.f)) ++ (([32] : List Nat).map UInt8.ofNat)) ++ (Lib.itoa x1.s)) ++ (([32] : List Nat).map UInt8.ofNat)).length + (([112, 108, 97, 105, 110] : List Nat).map UInt8.ofNat).length ≤ 9223372036854775807) (mP (((((((([103, 114, 111, 117, 112, 32] : List Nat).map UInt8.ofNat) ++ (Lib.itoa x1.f)) ++ (([32] : List Nat).map UInt8.ofNat)) ++ (Lib.itoa x1.s)) ++ (([32] : List Nat).map UInt8.ofNat)) ++ (([112, 108, 97, 105, 110] : List Nat).map UInt8.ofNat)).length + (([10] : List Nat).map UInt8.ofNat).length ≤ 9223372036854775807) (exB fun b2 : List UInt8 => mP (p.b.map encU = b2.map encU) (mP (p.b.length = b2.length) (mP (b2.length + (((((((([103, 114, 111, 117, 112, 32] : List Nat).map UInt8.ofNat) ++ (Lib.itoa x1.f)) ++ (([32] : List Nat).map UInt8.ofNat)) ++ (Lib.itoa x1.s)) ++ (([32] : List Nat).map UInt8.ofNat)) ++ (([112, 108, 97, 105, 110] : List Nat).map UInt8.ofNat)) ++ (([10] : List Nat).map UInt8.ofNat)).length ≤ 140737488355328) (mP (InR 0 (p.i + (1 : Int))) (exB fun q2 : A_l_head => mP (((.cons 12 (.sy (.int 0 (p.i + (1 : Int)))) (.cons 11 (.sy (.int 0 (p.gs.length : Int))) (.cons 10 (.sy (.imm p.hg 3 GrR p.gs encG)) (.cons 3 (.ptr 1 0) (.cons 1 (.ptr 0 0) .nil))))), (.node (.node .leaf (some (.blk false 56 2 [[.ptr 1 0, .sy (.prow 2 ((b2 ++ (((((((([103, 114, 111, 117, 112, 32] : List Nat).map UInt8.ofNat) ++ (Lib.itoa x1.f)) ++ (([32] : List Nat).map UInt8.ofNat)) ++ (Lib.itoa x1.s)) ++ (([32] : List Nat).map UInt8.ofNat)) ++ (([112, 108, 97, 105, 110] : List Nat).map UInt8.ofNat)) ++ (([10] : List Nat).map UInt8.ofNat))).length))]])) .leaf) (some (.blk false 36 8 [[.sy (.imm p.hg 3 GrR p.gs encG), .sy (.int 0 p.clients), .sy (.int 0 p.window), .sy (.int 0 p.deadline), .sy (.int 0 p.pace), .sy (.int 0 p.again), .sy (.int 0 p.bag), .sy (.int 4 p.first)]])) (.node .leaf (some (.prow 5 1 UInt8 (b2 ++ (((((((([103, 114, 111, 117, 112, 32] : List Nat).map UInt8.ofNat) ++ (Lib.itoa x1.f)) ++ (([32] : List Nat).map UInt8.ofNat)) ++ (Lib.itoa x1.s)) ++ (([32] : List Nat).map UInt8.ofNat)) ++ (([112, 108, 97, 105, 110] : List Nat).map UInt8.ofNat)) ++ (([10] : List Nat).map UInt8.ofNat))) encU)) .leaf)), 3) = I_l_head q2 ∧ mu_l_head q2 < mu_l_head (.v1 p)) (sp_l_head q2 K)))))))))))))))) true)) (K 2 (.cons 3 (.ptr 1 0) (.cons 1 (.ptr 0 0) .nil)) (.node (.node .leaf (some (.blk false 56 2 [[.ptr 1 0, .sy (.prow 2 p.b.length)]])) .leaf) (some (.blk false 36 8 [[.sy (.imm p.hg 3 GrR p.gs encG), .sy (.int 0 p.clients), .sy (.int 0 p.window), .sy (.int 0 p.deadline), .sy (.int 0 p.pace), .sy (.int 0 p.again), .sy (.int 0 p.bag), .sy (.int 4 p.first)]])) (.node .leaf (some (.prow 5 1 UInt8 p.b encU)) .leaf)) 3))) (by kernel_rfl) ?_
  dsimp only [pre_l_head1] at hpre
  obtain ⟨g0, g1, g2, gg, g4, g5⟩ := hpre
  refine iI (fun hc1 => ?_) (fun hc1 => ?_)
  refine mI (by first | omega | (constructor <;> omega)) ?_
  refine allB_mk (fun x1 => ?_)
  refine iI (fun hi2 => ?_) (fun _ => rfl)
  have hg_x1 : (0 ≤ x1.f ∧ x1.f ≤ 1099511627776) ∧ (0 ≤ x1.s ∧ x1.s ≤ 1099511627776) := gg _ (List.mem_of_getElem? (by assumption : p.gs[p.i.toNat]? = some x1))
  have hf_x1 := itoaU (z := x1.f) hg_x1.1.1 (by omega)
  have hs_x1 := itoaU (z := x1.s) hg_x1.2.1 (by omega)
  refine iI (fun hc3 => ?_) (fun hc3 => ?_)
  refine mI (by simp only [InR] ; omega) (mI (rfl) (mI (by (try simp only [List.length_append, List.length_map, List.length_cons, List.length_nil]) ; omega) (mI (by (try simp only [List.length_append, List.length_map, List.length_cons, List.length_nil]) ; omega) (mI (by simp only [InR] ; omega) (mI (by (try simp only [List.length_append, List.length_map, List.length_cons, List.length_nil]) ; omega) ?_)))))
  refine mI (by (try simp only [List.length_append, List.length_map, List.length_cons, List.length_nil]) ; omega) (mI (by (try simp only [List.length_append, List.length_map, List.length_cons, List.length_nil]) ; omega) (mI (by (try simp only [List.length_append, List.length_map, List.length_cons, List.length_nil]) ; omega) ?_))
  refine exB_mk p.b ?_
  refine mI (rfl) (mI (rfl) (mI (by (try dsimp only) ; (try simp only [List.length_append, List.length_map, List.length_cons, List.length_nil]) ; omega) (mI (by simp only [InR] ; omega) ?_)))
  exact bk_l_head1 (q := ⟨p.hg, p.gs, p.clients, p.window, p.deadline, p.pace, p.again, p.bag, p.first, p.b ++ (((((((([103, 114, 111, 117, 112, 32] : List Nat).map UInt8.ofNat) ++ (Lib.itoa x1.f)) ++ (([32] : List Nat).map UInt8.ofNat)) ++ (Lib.itoa x1.s)) ++ (([32] : List Nat).map UInt8.ofNat)) ++ (([99, 104, 101, 99, 107] : List Nat).map UInt8.ofNat)) ++ (([10] : List Nat).map UInt8.ofNat)), p.i + (1 : Int)⟩) (by dsimp only [mu_l_head1] ; omega) (by dsimp only [pre_l_head1] ; exact ⟨by omega, by omega, g2, gg, (by (try simp only [List.length_append, List.length_map, List.length_cons, List.length_nil]) ; omega), by simp⟩) (out_weak hK fun r hz => ⟨jg_step (by omega) (by assumption) (by first | (rw [groupT_pos (by assumption)] ; simp ; done) | (rw [groupT_neg (by assumption)] ; simp ; done)) hz.1, hz.2⟩) rfl
  refine mI (by simp only [InR] ; omega) (mI (rfl) (mI (by (try simp only [List.length_append, List.length_map, List.length_cons, List.length_nil]) ; omega) (mI (by (try simp only [List.length_append, List.length_map, List.length_cons, List.length_nil]) ; omega) (mI (by simp only [InR] ; omega) (mI (by (try simp only [List.length_append, List.length_map, List.length_cons, List.length_nil]) ; omega) ?_)))))
  refine mI (by (try simp only [List.length_append, List.length_map, List.length_cons, List.length_nil]) ; omega) (mI (by (try simp only [List.length_append, List.length_map, List.length_cons, List.length_nil]) ; omega) (mI (by (try simp only [List.length_append, List.length_map, List.length_cons, List.length_nil]) ; omega) ?_))
  refine exB_mk p.b ?_
  refine mI (rfl) (mI (rfl) (mI (by (try dsimp only) ; (try simp only [List.length_append, List.length_map, List.length_cons, List.length_nil]) ; omega) (mI (by simp only [InR] ; omega) ?_)))
  exact bk_l_head1 (q := ⟨p.hg, p.gs, p.clients, p.window, p.deadline, p.pace, p.again, p.bag, p.first, p.b ++ (((((((([103, 114, 111, 117, 112, 32] : List Nat).map UInt8.ofNat) ++ (Lib.itoa x1.f)) ++ (([32] : List Nat).map UInt8.ofNat)) ++ (Lib.itoa x1.s)) ++ (([32] : List Nat).map UInt8.ofNat)) ++ (([112, 108, 97, 105, 110] : List Nat).map UInt8.ofNat)) ++ (([10] : List Nat).map UInt8.ofNat)), p.i + (1 : Int)⟩) (by dsimp only [mu_l_head1] ; omega) (by dsimp only [pre_l_head1] ; exact ⟨by omega, by omega, g2, gg, (by (try simp only [List.length_append, List.length_map, List.length_cons, List.length_nil]) ; omega), by simp⟩) (out_weak hK fun r hz => ⟨jg_step (by omega) (by assumption) (by first | (rw [groupT_pos (by assumption)] ; simp ; done) | (rw [groupT_neg (by assumption)] ; simp ; done)) hz.1, hz.2⟩) rfl
  exact fin_l_head1 hK ⟨p.b⟩ (by dsimp only [po_l_head1] <;> (exact ⟨by rw [drop_out (by omega)] ; simp, by omega, g5⟩))
theorem lo_l_head : LpOk Tryd.prog 58 0 lp_head true 0 bd_l_head := by
  refine lp_of (lf := 600) ts_mix (cfT_ok nat_rline_ok) (by rfl) I_l_head mu_l_head sp_l_head (fun b j x h => by cases h) (fun S M nx K h => ?_) (fun p K h => ?_)
  · have h : lpv_l_head S M nx K = true := h
    unfold lpv_l_head at h
    rcases var_ok h with ⟨_, h⟩ | ⟨_, h⟩
    · obtain ⟨p, h⟩ := exB_ok h; exact ⟨.v0 p, (mustP_ok h).1, (mustP_ok h).2⟩
    rcases var_ok h with ⟨_, h⟩ | ⟨_, h⟩
    · obtain ⟨p, h⟩ := exB_ok h; exact ⟨.v1 p, (mustP_ok h).1, (mustP_ok h).2⟩
    cases h
  · cases p with
    | v0 p => have h : sp_l_head0 p K = true := h; exact vb_l_head0 p K (mustP_ok h).1 (mustP_ok h).2
    | v1 p => have h : sp_l_head1 p K = true := h; exact vb_l_head1 p K (mustP_ok h).1 (mustP_ok h).2
structure A_head where
  hg : Value
  gs : List GrR
  clients : Int
  window : Int
  deadline : Int
  pace : Int
  again : Int
  bag : Int
  first : Int
structure R_head where
  s : List UInt8
def po_head (p : A_head) (r : R_head) : Prop := r.s = headT p.gs p.clients p.window p.deadline p.pace p.again p.bag p.first ∧ r.s.length ≤ 2000
noncomputable def I_head (p : A_head) : IE := ([.agg [.sy (.imm p.hg 3 GrR p.gs encG), .sy (.int 0 p.clients), .sy (.int 0 p.window), .sy (.int 0 p.deadline), .sy (.int 0 p.pace), .sy (.int 0 p.again), .sy (.int 0 p.bag), .sy (.int 4 p.first)]], .leaf, 0)
noncomputable def out_head (p : A_head) (K : KE) : Bool := allB fun r : R_head => iP (po_head p r) (K (.sy (.str r.s)) .leaf 0) true
def pre_head (p : A_head) : Prop := (1 ≤ p.gs.length ∧ p.gs.length ≤ 4) ∧ (∀ g ∈ p.gs, grR g) ∧ ((0 ≤ p.clients ∧ p.clients ≤ 1099511627776) ∧ (0 ≤ p.window ∧ p.window ≤ 1099511627776) ∧ (0 ≤ p.deadline ∧ p.deadline ≤ 1099511627776) ∧ (0 ≤ p.pace ∧ p.pace ≤ 1099511627776) ∧ (0 ≤ p.again ∧ p.again ≤ 1099511627776) ∧ (0 ≤ p.bag ∧ p.bag ≤ 1099511627776)) ∧ 0 ≤ p.first ∧ p.first ≤ 18446744073709551615
theorem fin_head {p : A_head} {K : KE} (hK : out_head p K = true) (r : R_head) (h : po_head p r) : K (.sy (.str r.s)) .leaf 0 = true := ifB_use h (allB_ok hK r)
theorem vf_head (p : A_head) (K : KE) (hpre : pre_head p) (hK : out_head p K = true) : (funE 0 (cfT nat_rline) lp_head 600 ft_head (I_head p).1 (I_head p).2.1 (I_head p).2.2 K) = true := by
  refine Eq.trans (b := (useC (((.cons 12 (.sy (.int 0 0)) (.cons 11 (.sy (.int 0 (p.gs.length : Int))) (.cons 10 (.sy (.imm p.hg 3 GrR p.gs encG)) (.cons 3 (.ptr 1 0) (.cons 1 (.ptr 0 0) .nil))))), (.node (.node .leaf (some (.blk false 56 2 [[.nilP, .nilS]])) .leaf) (some (.blk false 36 8 [[.sy (.imm p.hg 3 GrR p.gs encG), .sy (.int 0 p.clients), .sy (.int 0 p.window), .sy (.int 0 p.deadline), .sy (.int 0 p.pace), .sy (.int 0 p.again), .sy (.int 0 p.bag), .sy (.int 4 p.first)]])) .leaf), 2)) I_l_head0 pre_l_head0 po_l_head0 fun p1 r1 => mP (InR 0 p1.clients) (mP ((([99, 108, 105, 101, 110, 116, 115, 32] : List Nat).map UInt8.ofNat).length + (Lib.itoa p1.clients).length ≤ 9223372036854775807) (mP (((([99, 108, 105, 101, 110, 116, 115, 32] : List Nat).map UInt8.ofNat) ++ (Lib.itoa p1.clients)).length + (([10] : List Nat).map UInt8.ofNat).length ≤ 9223372036854775807) (exB fun b1 : List UInt8 => mP (r1.c.map encU = b1.map encU) (mP (r1.c.length = b1.length) (mP (b1.length + (((([99, 108, 105, 101, 110, 116, 115, 32] : List Nat).map UInt8.ofNat) ++ (Lib.itoa p1.clients)) ++ (([10] : List Nat).map UInt8.ofNat)).length ≤ 140737488355328) (mP (InR 0 p1.window) (mP ((([119, 105, 110, 100, 111, 119, 32] : List Nat).map UInt8.ofNat).length + (Lib.itoa p1.window).length ≤ 9223372036854775807) (mP (((([119, 105, 110, 100, 111, 119, 32] : List Nat).map UInt8.ofNat) ++ (Lib.itoa p1.window)).length + (([10] : List Nat).map UInt8.ofNat).length ≤ 9223372036854775807) (exB fun b2 : List UInt8 => mP ((b1 ++ (((([99, 108, 105, 101, 110, 116, 115, 32] : List Nat).map UInt8.ofNat) ++ (Lib.itoa p1.clients)) ++ (([10] : List Nat).map UInt8.ofNat))).map encU = b2.map encU) (mP ((b1 ++ (((([99, 108, 105, 101, 110, 116, 115, 32] : List Nat).map UInt8.ofNat) ++ (Lib.itoa p1.clients)) ++ (([10] : List Nat).map UInt8.ofNat))).length = b2.length) (mP (b2.length + (((([119, 105, 110, 100, 111, 119, 32] : List Nat).map UInt8.ofNat) ++ (Lib.itoa p1.window)) ++ (([10] : List Nat).map UInt8.ofNat)).length ≤ 140737488355328) (mP (InR 0 p1.deadline) (mP ((([100, 101, 97, 100, 108, 105, 110, 101, 32] : List Nat).map UInt8.ofNat).length + (Lib.itoa p1.deadline).length ≤ 9223372036854775807) (mP (((([100, 101, 97, 100, 108, 105, 110, 101, 32] : List Nat).map UInt8.ofNat) ++ (Lib.itoa p1.deadline)).length + (([10] : List Nat).map UInt8.ofNat).length ≤ 9223372036854775807) (exB fun b3 : List UInt8 => mP ((b2 ++ (((([119, 105, 110, 100, 111, 119, 32] : List Nat).map UInt8.ofNat) ++ (Lib.itoa p1.window)) ++ (([10] : List Nat).map UInt8.ofNat))).map encU = b3.map encU) (mP ((b2 ++ (((([119, 105, 110, 100, 111, 119, 32] : List Nat).map UInt8.ofNat) ++ (Lib.itoa p1.window)) ++ (([10] : List Nat).map UInt8.ofNat))).length = b3.length) (mP (b3.length + (((([100, 101, 97, 100, 108, 105, 110, 101, 32] : List Nat).map UInt8.ofNat) ++ (Lib.itoa p1.deadline)) ++ (([10] : List Nat).map UInt8.ofNat)).length ≤ 140737488355328) (mP (InR 0 p1.pace) (mP ((([112, 97, 99, 101, 32] : List Nat).map UInt8.ofNat).length + (Lib.itoa p1.pace).length ≤ 9223372036854775807) (mP (((([112, 97, 99, 101, 32] : List Nat).map UInt8.ofNat) ++ (Lib.itoa p1.pace)).length + (([10] : List Nat).map UInt8.ofNat).length ≤ 9223372036854775807) (exB fun b4 : List UInt8 => mP ((b3 ++ (((([100, 101, 97, 100, 108, 105, 110, 101, 32] : List Nat).map UInt8.ofNat) ++ (Lib.itoa p1.deadline)) ++ (([10] : List Nat).map UInt8.ofNat))).map encU = b4.map encU) (mP ((b3 ++ (((([100, 101, 97, 100, 108, 105, 110, 101, 32] : List Nat).map UInt8.ofNat) ++ (Lib.itoa p1.deadline)) ++ (([10] : List Nat).map UInt8.ofNat))).length = b4.length) (mP (b4.length + (((([112, 97, 99, 101, 32] : List Nat).map UInt8.ofNat) ++ (Lib.itoa p1.pace)) ++ (([10] : List Nat).map UInt8.ofNat)).length ≤ 140737488355328) (mP (InR 0 p1.again) (mP ((([97, 103, 97, 105, 110, 32] : List Nat).map UInt8.ofNat).length + (Lib.itoa p1.again).length ≤ 9223372036854775807) (mP (((([97, 103, 97, 105, 110, 32] : List Nat).map UInt8.ofNat) ++ (Lib.itoa p1.again)).length + (([10] : List Nat).map UInt8.ofNat).length ≤ 9223372036854775807) (exB fun b5 : List UInt8 => mP ((b4 ++ (((([112, 97, 99, 101, 32] : List Nat).map UInt8.ofNat) ++ (Lib.itoa p1.pace)) ++ (([10] : List Nat).map UInt8.ofNat))).map encU = b5.map encU) (mP ((b4 ++ (((([112, 97, 99, 101, 32] : List Nat).map UInt8.ofNat) ++ (Lib.itoa p1.pace)) ++ (([10] : List Nat).map UInt8.ofNat))).length = b5.length) (mP (b5.length + (((([97, 103, 97, 105, 110, 32] : List Nat).map UInt8.ofNat) ++ (Lib.itoa p1.again)) ++ (([10] : List Nat).map UInt8.ofNat)).length ≤ 140737488355328) (mP (InR 0 p1.bag) (mP ((([98, 97, 103, 32] : List Nat).map UInt8.ofNat).length + (Lib.itoa p1.bag).length ≤ 9223372036854775807) (mP (((([98, 97, 103, 32] : List Nat).map UInt8.ofNat) ++ (Lib.itoa p1.bag)).length + (([10] : List Nat).map UInt8.ofNat).length ≤ 9223372036854775807) (exB fun b6 : List UInt8 => mP ((b5 ++ (((([97, 103, 97, 105, 110, 32] : List Nat).map UInt8.ofNat) ++ (Lib.itoa p1.again)) ++ (([10] : List Nat).map UInt8.ofNat))).map encU = b6.map encU) (mP ((b5 ++ (((([97, 103, 97, 105, 110, 32] : List Nat).map UInt8.ofNat) ++ (Lib.itoa p1.again)) ++ (([10] : List Nat).map UInt8.ofNat))).length = b6.length) (mP (b6.length + (((([98, 97, 103, 32] : List Nat).map UInt8.ofNat) ++ (Lib.itoa p1.bag)) ++ (([10] : List Nat).map UInt8.ofNat)).length ≤ 140737488355328) (mP (InR 4 p1.first) (mP ((([102, 105, 114, 115, 116, 32] : List Nat).map UInt8.ofNat).length + (Lib.itoa p1.first).length ≤ 9223372036854775807) (mP (((([102, 105, 114, 115, 116, 32] : List Nat).map UInt8.ofNat) ++ (Lib.itoa p1.first)).length + (([10] : List Nat).map UInt8.ofNat).length ≤ 9223372036854775807) (exB fun b7 : List UInt8 => mP ((b6 ++ (((([98, 97, 103, 32] : List Nat).map UInt8.ofNat) ++ (Lib.itoa p1.bag)) ++ (([10] : List Nat).map UInt8.ofNat))).map encU = b7.map encU) (mP ((b6 ++ (((([98, 97, 103, 32] : List Nat).map UInt8.ofNat) ++ (Lib.itoa p1.bag)) ++ (([10] : List Nat).map UInt8.ofNat))).length = b7.length) (mP (b7.length + (((([102, 105, 114, 115, 116, 32] : List Nat).map UInt8.ofNat) ++ (Lib.itoa p1.first)) ++ (([10] : List Nat).map UInt8.ofNat)).length ≤ 140737488355328) (exB fun b8 : List UInt8 => mP ((b7 ++ (((([102, 105, 114, 115, 116, 32] : List Nat).map UInt8.ofNat) ++ (Lib.itoa p1.first)) ++ (([10] : List Nat).map UInt8.ofNat))).map encU = b8.map encU) (mP ((b7 ++ (((([102, 105, 114, 115, 116, 32] : List Nat).map UInt8.ofNat) ++ (Lib.itoa p1.first)) ++ (([10] : List Nat).map UInt8.ofNat))).length = b8.length) (mP (b8 ≠ []) (K (.sy (.str b8)) .leaf 0))))))))))))))))))))))))))))))))))))))))))))))) (by kernel_rfl) ?_
  dsimp only [pre_head] at hpre
  obtain ⟨q1, q2, q3, q4⟩ := hpre
  have qi0 := itoaU (z := p.clients) (by omega) (by omega)
  have qi1 := itoaU (z := p.window) (by omega) (by omega)
  have qi2 := itoaU (z := p.deadline) (by omega) (by omega)
  have qi3 := itoaU (z := p.pace) (by omega) (by omega)
  have qi4 := itoaU (z := p.again) (by omega) (by omega)
  have qi5 := itoaU (z := p.bag) (by omega) (by omega)
  have qi6 := itoaU (z := p.first) (by omega) (by omega)
  refine callPR (⟨p.hg, p.gs, p.clients, p.window, p.deadline, p.pace, p.again, p.bag, p.first, (0 : Int)⟩ : A_l_head0) rfl (by (try dsimp only [pre_l_head0]) ; exact ⟨rfl, q1, q2⟩) fun r1 hi1 => ?_
  dsimp only [po_l_head0] at hi1
  refine mI (by simp only [InR] ; omega) (mI (by (try dsimp only) ; (try simp only [List.length_append, List.length_map, List.length_cons, List.length_nil]) ; omega) (mI (by (try dsimp only) ; (try simp only [List.length_append, List.length_map, List.length_cons, List.length_nil]) ; omega) ?_))
  refine exB_mk r1.c ?_
  refine mI (rfl) (mI (rfl) (mI (by (try dsimp only) ; (try simp only [List.length_append, List.length_map, List.length_cons, List.length_nil]) ; omega) (mI (by simp only [InR] ; omega) (mI (by (try dsimp only) ; (try simp only [List.length_append, List.length_map, List.length_cons, List.length_nil]) ; omega) (mI (by (try dsimp only) ; (try simp only [List.length_append, List.length_map, List.length_cons, List.length_nil]) ; omega) ?_)))))
  refine exB_mk (r1.c ++ (((([99, 108, 105, 101, 110, 116, 115, 32] : List Nat).map UInt8.ofNat) ++ (Lib.itoa p.clients)) ++ (([10] : List Nat).map UInt8.ofNat))) ?_
  refine mI (rfl) (mI (rfl) (mI (by (try dsimp only) ; (try simp only [List.length_append, List.length_map, List.length_cons, List.length_nil]) ; omega) (mI (by simp only [InR] ; omega) (mI (by (try dsimp only) ; (try simp only [List.length_append, List.length_map, List.length_cons, List.length_nil]) ; omega) (mI (by (try dsimp only) ; (try simp only [List.length_append, List.length_map, List.length_cons, List.length_nil]) ; omega) ?_)))))
  refine exB_mk ((r1.c ++ (((([99, 108, 105, 101, 110, 116, 115, 32] : List Nat).map UInt8.ofNat) ++ (Lib.itoa p.clients)) ++ (([10] : List Nat).map UInt8.ofNat))) ++ (((([119, 105, 110, 100, 111, 119, 32] : List Nat).map UInt8.ofNat) ++ (Lib.itoa p.window)) ++ (([10] : List Nat).map UInt8.ofNat))) ?_
  refine mI (rfl) (mI (rfl) (mI (by (try dsimp only) ; (try simp only [List.length_append, List.length_map, List.length_cons, List.length_nil]) ; omega) (mI (by simp only [InR] ; omega) (mI (by (try dsimp only) ; (try simp only [List.length_append, List.length_map, List.length_cons, List.length_nil]) ; omega) (mI (by (try dsimp only) ; (try simp only [List.length_append, List.length_map, List.length_cons, List.length_nil]) ; omega) ?_)))))
  refine exB_mk (((r1.c ++ (((([99, 108, 105, 101, 110, 116, 115, 32] : List Nat).map UInt8.ofNat) ++ (Lib.itoa p.clients)) ++ (([10] : List Nat).map UInt8.ofNat))) ++ (((([119, 105, 110, 100, 111, 119, 32] : List Nat).map UInt8.ofNat) ++ (Lib.itoa p.window)) ++ (([10] : List Nat).map UInt8.ofNat))) ++ (((([100, 101, 97, 100, 108, 105, 110, 101, 32] : List Nat).map UInt8.ofNat) ++ (Lib.itoa p.deadline)) ++ (([10] : List Nat).map UInt8.ofNat))) ?_
  refine mI (rfl) (mI (rfl) (mI (by (try dsimp only) ; (try simp only [List.length_append, List.length_map, List.length_cons, List.length_nil]) ; omega) (mI (by simp only [InR] ; omega) (mI (by (try dsimp only) ; (try simp only [List.length_append, List.length_map, List.length_cons, List.length_nil]) ; omega) (mI (by (try dsimp only) ; (try simp only [List.length_append, List.length_map, List.length_cons, List.length_nil]) ; omega) ?_)))))
  refine exB_mk ((((r1.c ++ (((([99, 108, 105, 101, 110, 116, 115, 32] : List Nat).map UInt8.ofNat) ++ (Lib.itoa p.clients)) ++ (([10] : List Nat).map UInt8.ofNat))) ++ (((([119, 105, 110, 100, 111, 119, 32] : List Nat).map UInt8.ofNat) ++ (Lib.itoa p.window)) ++ (([10] : List Nat).map UInt8.ofNat))) ++ (((([100, 101, 97, 100, 108, 105, 110, 101, 32] : List Nat).map UInt8.ofNat) ++ (Lib.itoa p.deadline)) ++ (([10] : List Nat).map UInt8.ofNat))) ++ (((([112, 97, 99, 101, 32] : List Nat).map UInt8.ofNat) ++ (Lib.itoa p.pace)) ++ (([10] : List Nat).map UInt8.ofNat))) ?_
  refine mI (rfl) (mI (rfl) (mI (by (try dsimp only) ; (try simp only [List.length_append, List.length_map, List.length_cons, List.length_nil]) ; omega) (mI (by simp only [InR] ; omega) (mI (by (try dsimp only) ; (try simp only [List.length_append, List.length_map, List.length_cons, List.length_nil]) ; omega) (mI (by (try dsimp only) ; (try simp only [List.length_append, List.length_map, List.length_cons, List.length_nil]) ; omega) ?_)))))
  refine exB_mk (((((r1.c ++ (((([99, 108, 105, 101, 110, 116, 115, 32] : List Nat).map UInt8.ofNat) ++ (Lib.itoa p.clients)) ++ (([10] : List Nat).map UInt8.ofNat))) ++ (((([119, 105, 110, 100, 111, 119, 32] : List Nat).map UInt8.ofNat) ++ (Lib.itoa p.window)) ++ (([10] : List Nat).map UInt8.ofNat))) ++ (((([100, 101, 97, 100, 108, 105, 110, 101, 32] : List Nat).map UInt8.ofNat) ++ (Lib.itoa p.deadline)) ++ (([10] : List Nat).map UInt8.ofNat))) ++ (((([112, 97, 99, 101, 32] : List Nat).map UInt8.ofNat) ++ (Lib.itoa p.pace)) ++ (([10] : List Nat).map UInt8.ofNat))) ++ (((([97, 103, 97, 105, 110, 32] : List Nat).map UInt8.ofNat) ++ (Lib.itoa p.again)) ++ (([10] : List Nat).map UInt8.ofNat))) ?_
  refine mI (rfl) (mI (rfl) (mI (by (try dsimp only) ; (try simp only [List.length_append, List.length_map, List.length_cons, List.length_nil]) ; omega) (mI (by simp only [InR] ; omega) (mI (by (try dsimp only) ; (try simp only [List.length_append, List.length_map, List.length_cons, List.length_nil]) ; omega) (mI (by (try dsimp only) ; (try simp only [List.length_append, List.length_map, List.length_cons, List.length_nil]) ; omega) ?_)))))
  refine exB_mk ((((((r1.c ++ (((([99, 108, 105, 101, 110, 116, 115, 32] : List Nat).map UInt8.ofNat) ++ (Lib.itoa p.clients)) ++ (([10] : List Nat).map UInt8.ofNat))) ++ (((([119, 105, 110, 100, 111, 119, 32] : List Nat).map UInt8.ofNat) ++ (Lib.itoa p.window)) ++ (([10] : List Nat).map UInt8.ofNat))) ++ (((([100, 101, 97, 100, 108, 105, 110, 101, 32] : List Nat).map UInt8.ofNat) ++ (Lib.itoa p.deadline)) ++ (([10] : List Nat).map UInt8.ofNat))) ++ (((([112, 97, 99, 101, 32] : List Nat).map UInt8.ofNat) ++ (Lib.itoa p.pace)) ++ (([10] : List Nat).map UInt8.ofNat))) ++ (((([97, 103, 97, 105, 110, 32] : List Nat).map UInt8.ofNat) ++ (Lib.itoa p.again)) ++ (([10] : List Nat).map UInt8.ofNat))) ++ (((([98, 97, 103, 32] : List Nat).map UInt8.ofNat) ++ (Lib.itoa p.bag)) ++ (([10] : List Nat).map UInt8.ofNat))) ?_
  refine mI (rfl) (mI (rfl) (mI (by (try dsimp only) ; (try simp only [List.length_append, List.length_map, List.length_cons, List.length_nil]) ; omega) ?_))
  refine exB_mk (((((((r1.c ++ (((([99, 108, 105, 101, 110, 116, 115, 32] : List Nat).map UInt8.ofNat) ++ (Lib.itoa p.clients)) ++ (([10] : List Nat).map UInt8.ofNat))) ++ (((([119, 105, 110, 100, 111, 119, 32] : List Nat).map UInt8.ofNat) ++ (Lib.itoa p.window)) ++ (([10] : List Nat).map UInt8.ofNat))) ++ (((([100, 101, 97, 100, 108, 105, 110, 101, 32] : List Nat).map UInt8.ofNat) ++ (Lib.itoa p.deadline)) ++ (([10] : List Nat).map UInt8.ofNat))) ++ (((([112, 97, 99, 101, 32] : List Nat).map UInt8.ofNat) ++ (Lib.itoa p.pace)) ++ (([10] : List Nat).map UInt8.ofNat))) ++ (((([97, 103, 97, 105, 110, 32] : List Nat).map UInt8.ofNat) ++ (Lib.itoa p.again)) ++ (([10] : List Nat).map UInt8.ofNat))) ++ (((([98, 97, 103, 32] : List Nat).map UInt8.ofNat) ++ (Lib.itoa p.bag)) ++ (([10] : List Nat).map UInt8.ofNat))) ++ (((([102, 105, 114, 115, 116, 32] : List Nat).map UInt8.ofNat) ++ (Lib.itoa p.first)) ++ (([10] : List Nat).map UInt8.ofNat))) ?_
  refine mI (rfl) (mI (rfl) (mI (by simp) ?_))
  exact fin_head hK ⟨(((((((r1.c ++ (((([99, 108, 105, 101, 110, 116, 115, 32] : List Nat).map UInt8.ofNat) ++ (Lib.itoa p.clients)) ++ (([10] : List Nat).map UInt8.ofNat))) ++ (((([119, 105, 110, 100, 111, 119, 32] : List Nat).map UInt8.ofNat) ++ (Lib.itoa p.window)) ++ (([10] : List Nat).map UInt8.ofNat))) ++ (((([100, 101, 97, 100, 108, 105, 110, 101, 32] : List Nat).map UInt8.ofNat) ++ (Lib.itoa p.deadline)) ++ (([10] : List Nat).map UInt8.ofNat))) ++ (((([112, 97, 99, 101, 32] : List Nat).map UInt8.ofNat) ++ (Lib.itoa p.pace)) ++ (([10] : List Nat).map UInt8.ofNat))) ++ (((([97, 103, 97, 105, 110, 32] : List Nat).map UInt8.ofNat) ++ (Lib.itoa p.again)) ++ (([10] : List Nat).map UInt8.ofNat))) ++ (((([98, 97, 103, 32] : List Nat).map UInt8.ofNat) ++ (Lib.itoa p.bag)) ++ (([10] : List Nat).map UInt8.ofNat))) ++ (((([102, 105, 114, 115, 116, 32] : List Nat).map UInt8.ofNat) ++ (Lib.itoa p.first)) ++ (([10] : List Nat).map UInt8.ofNat)))⟩ (by dsimp only [po_head] <;> (refine ⟨?_, (by (try simp only [List.length_append, List.length_map, List.length_cons, List.length_nil]) ; omega)⟩ ; have e9 := hi1.1 ; simp only [Int.toNat_zero, List.drop_zero] at e9 ; rw [e9] ; simp [headT]))
noncomputable def nat_head := natC nat_rline 0 (esOf I_head (spP pre_head out_head)) 18 [(0, 15)]
theorem nat_head_ok : NatsOk Tryd.prog nat_head := natC_ok (natE_said (f := 18) (k := 0) (lp := lp_head) (lf := 600) ts_mix (cfT_ok nat_rline_ok) ft_head_ok (by rfl) (fun b j x h => (mem_step lo_l_head (fun h => (by cases h)) h)) fun p K h => vf_head p K (mustP_ok h).1 (mustP_ok h).2) nat_rline_ok
def ft_rhead : XF := .mk 69 (.one 2) (.aft (.seq (g_ 2 [e_ 0 1 (.box 25 (.t 0)), p_ 1 2 (.mv (.c (.str [])))]) (.seq (g_ 1 [p_ 0 3 (.mv (.c (.str [])))]) (.seq (.seq (g_ 1 [p_ 0 4 (.mv (i_ 0))]) (.block 2 (.pre [.can 0 [1, 3, 4], .up 3, .up 4, .can 0 [1, 3, 4]] (.inv 0 (.aft (.seq (.seq (g_ 5 [p_ 0 8 (m_ 4), p_ 1 9 (f_ 0 1), r_ 2 10 (l_ 9), p_ 3 11 (k_ 10), p_ 4 12 (.bin 3 0 (.t 8) (.t 11))]) (.cond (.t 12) .skip (.exit 2))) (.seq (.block 3 (.seq (g_ 7 [p_ 0 15 (f_ 0 1), r_ 1 16 (l_ 15), p_ 2 17 (m_ 4), p_ 3 18 (.ixs 3 (.t 16) (.t 17)), r_ 4 19 (.ld true 3 (.t 18)), e_ 5 5 (.al 83 [.int 0 (.ofNat 0), .int 0 (.ofNat 0), .bool false]), e0_ 6 (.st 3 (.t 5) (.t 19))]) (.seq (h_ 14 [p_ 0 20 (m_ 3), p_ 1 21 (.bin 4 0 (.t 20) (.c (.str [103, 114, 111, 117, 112, 32]))), p_ 2 22 (f_ 0 5), r_ 3 23 (l_ 22), p_ 4 24 (.cnv 4 (.t 23)), p_ 8 28 (f_ 1 5), r_ 9 29 (l_ 28), p_ 10 30 (.cnv 4 (.t 29)), c_ 5 25 47 [.t 24], a_ 9 29 (l_ 28), p_ 6 26 (.bin 4 0 (.t 21) (.t 25)), p_ 7 27 (.bin 4 0 (.t 26) (.c (.str [32]))), c_ 11 31 47 [.t 30], p_ 12 32 (.bin 4 0 (.t 27) (.t 31)), p_ 13 3 (m_ 32)]) (.seq (g_ 2 [p_ 0 33 (f_ 2 5), r_ 1 34 (l_ 33)]) (.cond (.t 34) (g_ 3 [p_ 0 35 (m_ 3), p_ 1 36 (.bin 4 0 (.t 35) (.c (.str [32, 99, 104, 101, 99, 107, 10]))), p_ 2 3 (m_ 36)]) (g_ 3 [p_ 0 37 (m_ 3), p_ 1 38 (.bin 4 0 (.t 37) (.c (.str [32, 112, 108, 97, 105, 110, 10]))), p_ 2 3 (m_ 38)])))))) (g_ 3 [p_ 0 13 (m_ 4), p_ 1 14 (.bin 0 0 (.t 13) (i_ 1)), p_ 2 4 (m_ 14)]))) [(0, [.can 0 [1, 3, 4]]), (2, [.can 0 [1, 3]])]))))) (.seq (g_ 3 [r_ 0 39 (.ld true 8 (.t 1)), c_ 1 40 31 [.t 39], p_ 2 6 (m_ 40)]) (.seq (.seq (g_ 1 [p_ 0 7 (.mv (i_ 0))]) (.block 4 (.loop [1, 2, 3, 6, 7, 41, 42, 43, 44, 45, 46, 47, 48, 49, 50, 51, 52, 53, 54, 55, 56, 57, 58, 59, 60, 61, 62, 63, 64, 65, 66, 67, 68] (.seq (.seq (g_ 4 [p_ 0 41 (m_ 7), p_ 1 42 (m_ 6), p_ 2 43 (k_ 42), p_ 3 44 (.bin 3 0 (.t 41) (.t 43))]) (.cond (.t 44) .skip (.exit 4))) (.seq (.block 5 (h_ 16 [p_ 0 47 (m_ 3), p_ 2 49 (m_ 7), p_ 7 54 (m_ 6), p_ 8 55 (m_ 7), p_ 9 56 (.ixs 1 (.t 54) (.t 55)), r_ 10 57 (l_ 56), p_ 11 58 (.cnv 4 (.t 57)), c_ 1 48 48 [], a_ 10 57 (l_ 56), p_ 3 50 (.ixs 1 (.t 48) (.t 49)), r_ 4 51 (l_ 50), p_ 5 52 (.bin 4 0 (.t 47) (.t 51)), p_ 6 53 (.bin 4 0 (.t 52) (.c (.str [32]))), c_ 12 59 47 [.t 58], a_ 4 51 (l_ 50), p_ 13 60 (.bin 4 0 (.t 53) (.t 59)), p_ 14 61 (.bin 4 0 (.t 60) (.c (.str [10]))), p_ 15 3 (m_ 61)])) (g_ 3 [p_ 0 45 (m_ 7), p_ 1 46 (.bin 0 0 (.t 45) (i_ 1)), p_ 2 7 (m_ 46)])))))) (.seq (g_ 8 [p_ 0 62 (m_ 3), p_ 1 63 (.bin 4 0 (.t 62) (.c (.str [102, 105, 114, 115, 116, 32]))), p_ 2 64 (f_ 7 1), r_ 3 65 (l_ 64), c_ 4 66 47 [.t 65], p_ 5 67 (.bin 4 0 (.t 63) (.t 66)), p_ 6 68 (.bin 4 0 (.t 67) (.c (.str [10]))), p_ 7 2 (m_ 68)]) .ret)))))) [(0, [.up 2]), (1, [.up 2])])
theorem ft_rhead_ok : chkF Tryd.prog 24 ft_rhead = true := by kernel_rfl
structure A_l_rhead where
  hg : Value
  gs : List GrR
  clients : Int
  window : Int
  deadline : Int
  pace : Int
  again : Int
  bag : Int
  first : Int
  w : List UInt8
  i : Int
structure R_l_rhead where
  c : List UInt8
def po_l_rhead (p : A_l_rhead) (r : R_l_rhead) : Prop := r.c = p.w ++ ((p.gs.drop p.i.toNat).map groupT).flatten ∧ r.c.length ≤ 1000
noncomputable def I_l_rhead (p : A_l_rhead) : IL := ((.cons 4 (.sy (.int 0 p.i)) (.cons 3 (.sy (.str p.w)) (.cons 1 (.ptr 0 0) .nil))), (.node .leaf (some (.blk false 25 8 [[.sy (.imm p.hg 3 GrR p.gs encG), .sy (.int 0 p.clients), .sy (.int 0 p.window), .sy (.int 0 p.deadline), .sy (.int 0 p.pace), .sy (.int 0 p.again), .sy (.int 0 p.bag), .sy (.int 4 p.first)]])) .leaf), 1)
noncomputable def out_l_rhead (p : A_l_rhead) (K : KC) : Bool := allB fun r : R_l_rhead => iP (po_l_rhead p r) (K 2 (.cons 3 (.sy (.str r.c)) (.cons 1 (.ptr 0 0) .nil)) (.node .leaf (some (.blk false 25 8 [[.sy (.imm p.hg 3 GrR p.gs encG), .sy (.int 0 p.clients), .sy (.int 0 p.window), .sy (.int 0 p.deadline), .sy (.int 0 p.pace), .sy (.int 0 p.again), .sy (.int 0 p.bag), .sy (.int 4 p.first)]])) .leaf) 1) true
def pre_l_rhead (p : A_l_rhead) : Prop := 0 ≤ p.i ∧ p.i ≤ (p.gs.length : Int) ∧ p.gs.length ≤ 4 ∧ (∀ g ∈ p.gs, grR g) ∧ (p.w.length : Int) ≤ 200 * p.i
theorem fin_l_rhead {p : A_l_rhead} {K : KC} (hK : out_l_rhead p K = true) (r : R_l_rhead) (h : po_l_rhead p r) : K 2 (.cons 3 (.sy (.str r.c)) (.cons 1 (.ptr 0 0) .nil)) (.node .leaf (some (.blk false 25 8 [[.sy (.imm p.hg 3 GrR p.gs encG), .sy (.int 0 p.clients), .sy (.int 0 p.window), .sy (.int 0 p.deadline), .sy (.int 0 p.pace), .sy (.int 0 p.again), .sy (.int 0 p.bag), .sy (.int 4 p.first)]])) .leaf) 1 = true := ifB_use h (allB_ok hK r)
noncomputable def sp_l_rhead (p : A_l_rhead) (K : KC) : Bool := must (prB (pre_l_rhead p)) (out_l_rhead p K)
noncomputable def lp_rhead : LpF := fun j S M nx K => (Bool.rec (false) (exB fun p : A_l_rhead => must (prB ((S, M, nx) = I_l_rhead p)) (sp_l_rhead p K)) (Nat.beq j 0))
def mu_l_rhead (p : A_l_rhead) : Nat := ((p.gs.length : Int) - p.i).toNat
theorem bk_l_rhead {p q : A_l_rhead} {K : KC} {s : IL} (hm : mu_l_rhead q < mu_l_rhead p) (hp : pre_l_rhead q) (hK : out_l_rhead q K = true) (e : s = I_l_rhead q) : (exB fun q => mP (s = I_l_rhead q ∧ mu_l_rhead q < mu_l_rhead p) (sp_l_rhead q K)) = true := exB_mk q (mustP ⟨e, hm⟩ (mustP hp hK))
def bd_l_rhead : XC := (.aft (.seq (.seq (g_ 5 [p_ 0 8 (m_ 4), p_ 1 9 (f_ 0 1), r_ 2 10 (l_ 9), p_ 3 11 (k_ 10), p_ 4 12 (.bin 3 0 (.t 8) (.t 11))]) (.cond (.t 12) .skip (.exit 2))) (.seq (.block 3 (.seq (g_ 7 [p_ 0 15 (f_ 0 1), r_ 1 16 (l_ 15), p_ 2 17 (m_ 4), p_ 3 18 (.ixs 3 (.t 16) (.t 17)), r_ 4 19 (.ld true 3 (.t 18)), e_ 5 5 (.al 83 [.int 0 (.ofNat 0), .int 0 (.ofNat 0), .bool false]), e0_ 6 (.st 3 (.t 5) (.t 19))]) (.seq (h_ 14 [p_ 0 20 (m_ 3), p_ 1 21 (.bin 4 0 (.t 20) (.c (.str [103, 114, 111, 117, 112, 32]))), p_ 2 22 (f_ 0 5), r_ 3 23 (l_ 22), p_ 4 24 (.cnv 4 (.t 23)), p_ 8 28 (f_ 1 5), r_ 9 29 (l_ 28), p_ 10 30 (.cnv 4 (.t 29)), c_ 5 25 47 [.t 24], a_ 9 29 (l_ 28), p_ 6 26 (.bin 4 0 (.t 21) (.t 25)), p_ 7 27 (.bin 4 0 (.t 26) (.c (.str [32]))), c_ 11 31 47 [.t 30], p_ 12 32 (.bin 4 0 (.t 27) (.t 31)), p_ 13 3 (m_ 32)]) (.seq (g_ 2 [p_ 0 33 (f_ 2 5), r_ 1 34 (l_ 33)]) (.cond (.t 34) (g_ 3 [p_ 0 35 (m_ 3), p_ 1 36 (.bin 4 0 (.t 35) (.c (.str [32, 99, 104, 101, 99, 107, 10]))), p_ 2 3 (m_ 36)]) (g_ 3 [p_ 0 37 (m_ 3), p_ 1 38 (.bin 4 0 (.t 37) (.c (.str [32, 112, 108, 97, 105, 110, 10]))), p_ 2 3 (m_ 38)])))))) (g_ 3 [p_ 0 13 (m_ 4), p_ 1 14 (.bin 0 0 (.t 13) (i_ 1)), p_ 2 4 (m_ 14)]))) [(0, [.can 0 [1, 3, 4]]), (2, [.can 0 [1, 3]])])
theorem vb_l_rhead (p : A_l_rhead) (K : KC) (hpre : pre_l_rhead p) (hK : out_l_rhead p K = true) : (codeX (cfT nat_head) lp_rhead 600 bd_l_rhead (I_l_rhead p).1 (I_l_rhead p).2.1 (I_l_rhead p).2.2 (fun e S M nx => Nat.casesOn e (exB fun q : A_l_rhead => must (prB ((S, M, nx) = I_l_rhead q ∧ mu_l_rhead q < mu_l_rhead p)) (sp_l_rhead q K)) (fun e2 => K (Nat.succ e2) S M nx))) = true := by
  refine Eq.trans (b := (iP (p.i < (p.gs.length : Int)) (mP (0 ≤ p.i ∧ p.i < (p.gs.length : Int)) (allB fun x1 : GrR => iP (p.gs[p.i.toNat]? = some x1) (mP (p.w.length + (([103, 114, 111, 117, 112, 32] : List Nat).map UInt8.ofNat).length ≤ 9223372036854775807) (mP (InR 4 x1.f) (mP (InR 4 x1.s) (mP (InR 4 x1.f) (mP (((.int 0 x1.s) : SY) = (.int 0 x1.s)) (mP ((p.w ++ (([103, 114, 111, 117, 112, 32] : List Nat).map UInt8.ofNat)).length + (Lib.itoa x1.f).length ≤ 9223372036854775807) (mP (((p.w ++ (([103, 114, 111, 117, 112, 32] : List Nat).map UInt8.ofNat)) ++ (Lib.itoa x1.f)).length + (([32] : List Nat).map UInt8.ofNat).length ≤ 9223372036854775807) (mP (InR 4 x1.s) (mP ((((p.w ++ (([103, 114, 111, 117, 112, 32] : List Nat).map UInt8.ofNat)) ++ (Lib.itoa x1.f)) ++ (([32] : List Nat).map UInt8.ofNat)).length + (Lib.itoa x1.s).length ≤ 9223372036854775807) (iP (x1.c) (mP (((((p.w ++ (([103, 114, 111, 117, 112, 32] : List Nat).map UInt8.ofNat)) ++ (Lib.itoa x1.f)) ++ (([32] : List Nat).map UInt8.ofNat)) ++ (Lib.itoa x1.s)).length + (([32, 99, 104, 101, 99, 107, 10] : List Nat).map UInt8.ofNat).length ≤ 9223372036854775807) (mP (InR 0 (p.i + (1 : Int))) (exB fun q1 : A_l_rhead => mP (((.cons 4 (.sy (.int 0 (p.i + (1 : Int)))) (.cons 3 (.sy (.str (((((p.w ++ (([103, 114, 111, 117, 112, 32] : List Nat).map UInt8.ofNat)) ++ (Lib.itoa x1.f)) ++ (([32] : List Nat).map UInt8.ofNat)) ++ (Lib.itoa x1.s)) ++ (([32, 99, 104, 101, 99, 107, 10] : List Nat).map UInt8.ofNat)))) (.cons 1 (.ptr 0 0) .nil))), (.node .leaf (some (.blk false 25 8 [[.sy (.imm p.hg 3 GrR p.gs encG), .sy (.int 0 p.clients), .sy (.int 0 p.window), .sy (.int 0 p.deadline), .sy (.int 0 p.pace), .sy (.int 0 p.again), .sy (.int 0 p.bag), .sy (.int 4 p.first)]])) .leaf), 1) = I_l_rhead q1 ∧ mu_l_rhead q1 < mu_l_rhead p) (sp_l_rhead q1 K)))) (mP (((((p.w ++ (([103, 114, 111, 117, 112, 32] : List Nat).map UInt8.ofNat)) ++ (Lib.itoa x1.f)) ++ (([32] : List Nat).map UInt8.ofNat)) ++ (Lib.itoa x1.s)).length + (([32, 112, 108, 97, 105, 110, 10] : List Nat).map UInt8.ofNat).length ≤ 9223372036854775807) (mP (InR 0 (p.i + (1 : Int))) (exB fun q2 : A_l_rhead => mP (((.cons 4 (.sy (.int 0 (p.i + (1 : Int)))) (.cons 3 (.sy (.str (((((p.w ++ (([103, 114, 111, 117, 112, 32] : List Nat).map UInt8.ofNat)) ++ (Lib.itoa x1.f)) ++ (([32] : List Nat).map UInt8.ofNat)) ++ (Lib.itoa x1.s)) ++ (([32, 112, 108, 97, 105, 110, 10] : List Nat).map UInt8.ofNat)))) (.cons 1 (.ptr 0 0) .nil))), (.node .leaf (some (.blk false 25 8 [[.sy (.imm p.hg 3 GrR p.gs encG), .sy (.int 0 p.clients), .sy (.int 0 p.window), .sy (.int 0 p.deadline), .sy (.int 0 p.pace), .sy (.int 0 p.again), .sy (.int 0 p.bag), .sy (.int 4 p.first)]])) .leaf), 1) = I_l_rhead q2 ∧ mu_l_rhead q2 < mu_l_rhead p) (sp_l_rhead q2 K)))))))))))))) true)) (K 2 (.cons 3 (.sy (.str p.w)) (.cons 1 (.ptr 0 0) .nil)) (.node .leaf (some (.blk false 25 8 [[.sy (.imm p.hg 3 GrR p.gs encG), .sy (.int 0 p.clients), .sy (.int 0 p.window), .sy (.int 0 p.deadline), .sy (.int 0 p.pace), .sy (.int 0 p.again), .sy (.int 0 p.bag), .sy (.int 4 p.first)]])) .leaf) 1))) (by kernel_rfl) ?_
  dsimp only [pre_l_rhead] at hpre
  obtain ⟨g0, g1, g2, gg, g4⟩ := hpre
  refine iI (fun hc1 => ?_) (fun hc1 => ?_)
  refine mI (by first | omega | (constructor <;> omega)) ?_
  refine allB_mk (fun x1 => ?_)
  refine iI (fun hi2 => ?_) (fun _ => rfl)
  have hg_x1 : (0 ≤ x1.f ∧ x1.f ≤ 1099511627776) ∧ (0 ≤ x1.s ∧ x1.s ≤ 1099511627776) := gg _ (List.mem_of_getElem? (by assumption : p.gs[p.i.toNat]? = some x1))
  have hf_x1 := itoaU (z := x1.f) hg_x1.1.1 (by omega)
  have hs_x1 := itoaU (z := x1.s) hg_x1.2.1 (by omega)
  refine mI (by (try simp only [List.length_append, List.length_map, List.length_cons, List.length_nil]) ; omega) (mI (by simp only [InR] ; omega) (mI (by simp only [InR] ; omega) (mI (by simp only [InR] ; omega) (mI (rfl) (mI (by (try simp only [List.length_append, List.length_map, List.length_cons, List.length_nil]) ; omega) (mI (by (try simp only [List.length_append, List.length_map, List.length_cons, List.length_nil]) ; omega) ?_))))))
  refine mI (by simp only [InR] ; omega) (mI (by (try simp only [List.length_append, List.length_map, List.length_cons, List.length_nil]) ; omega) ?_)
  refine iI (fun hc3 => ?_) (fun hc3 => ?_)
  refine mI (by (try simp only [List.length_append, List.length_map, List.length_cons, List.length_nil]) ; omega) (mI (by simp only [InR] ; omega) ?_)
  exact bk_l_rhead (q := ⟨p.hg, p.gs, p.clients, p.window, p.deadline, p.pace, p.again, p.bag, p.first, ((((p.w ++ (([103, 114, 111, 117, 112, 32] : List Nat).map UInt8.ofNat)) ++ (Lib.itoa x1.f)) ++ (([32] : List Nat).map UInt8.ofNat)) ++ (Lib.itoa x1.s)) ++ (([32, 99, 104, 101, 99, 107, 10] : List Nat).map UInt8.ofNat), p.i + (1 : Int)⟩) (by dsimp only [mu_l_rhead] ; omega) (by dsimp only [pre_l_rhead] ; exact ⟨by omega, by omega, g2, gg, (by (try simp only [List.length_append, List.length_map, List.length_cons, List.length_nil]) ; omega)⟩) (out_weak hK fun r hz => ⟨jg_step (by omega) (by assumption) (by first | (rw [groupT_pos (by assumption)] ; simp ; done) | (rw [groupT_neg (by assumption)] ; simp ; done)) hz.1, hz.2⟩) rfl
  refine mI (by (try simp only [List.length_append, List.length_map, List.length_cons, List.length_nil]) ; omega) (mI (by simp only [InR] ; omega) ?_)
  exact bk_l_rhead (q := ⟨p.hg, p.gs, p.clients, p.window, p.deadline, p.pace, p.again, p.bag, p.first, ((((p.w ++ (([103, 114, 111, 117, 112, 32] : List Nat).map UInt8.ofNat)) ++ (Lib.itoa x1.f)) ++ (([32] : List Nat).map UInt8.ofNat)) ++ (Lib.itoa x1.s)) ++ (([32, 112, 108, 97, 105, 110, 10] : List Nat).map UInt8.ofNat), p.i + (1 : Int)⟩) (by dsimp only [mu_l_rhead] ; omega) (by dsimp only [pre_l_rhead] ; exact ⟨by omega, by omega, g2, gg, (by (try simp only [List.length_append, List.length_map, List.length_cons, List.length_nil]) ; omega)⟩) (out_weak hK fun r hz => ⟨jg_step (by omega) (by assumption) (by first | (rw [groupT_pos (by assumption)] ; simp ; done) | (rw [groupT_neg (by assumption)] ; simp ; done)) hz.1, hz.2⟩) rfl
  exact fin_l_rhead hK ⟨p.w⟩ (by dsimp only [po_l_rhead] <;> (exact ⟨by rw [drop_out (by omega)] ; simp, by omega⟩))
theorem lo_l_rhead : LpOk Tryd.prog 69 0 lp_rhead true 0 bd_l_rhead := by
  exact lp_of (lf := 600) ts_mix (cfT_ok nat_head_ok) (by rfl) I_l_rhead mu_l_rhead sp_l_rhead (fun b j x h => by cases h) (fun S M nx K h => by obtain ⟨p, h⟩ := exB_ok h; exact ⟨p, (mustP_ok h).1, (mustP_ok h).2⟩) (fun p K h => vb_l_rhead p K (mustP_ok h).1 (mustP_ok h).2)
structure A_rhead where
  hg : Value
  gs : List GrR
  clients : Int
  window : Int
  deadline : Int
  pace : Int
  again : Int
  bag : Int
  first : Int
structure R_rhead where
  s : List UInt8
def po_rhead (p : A_rhead) (r : R_rhead) : Prop := r.s = headT p.gs p.clients p.window p.deadline p.pace p.again p.bag p.first ∧ r.s.length ≤ 2000
noncomputable def I_rhead (p : A_rhead) : IE := ([.agg [.sy (.imm p.hg 3 GrR p.gs encG), .sy (.int 0 p.clients), .sy (.int 0 p.window), .sy (.int 0 p.deadline), .sy (.int 0 p.pace), .sy (.int 0 p.again), .sy (.int 0 p.bag), .sy (.int 4 p.first)]], .leaf, 0)
noncomputable def out_rhead (p : A_rhead) (K : KE) : Bool := allB fun r : R_rhead => iP (po_rhead p r) (K (.sy (.str r.s)) .leaf 0) true
def pre_rhead (p : A_rhead) : Prop := (1 ≤ p.gs.length ∧ p.gs.length ≤ 4) ∧ (∀ g ∈ p.gs, grR g) ∧ ((0 ≤ p.clients ∧ p.clients ≤ 1099511627776) ∧ (0 ≤ p.window ∧ p.window ≤ 1099511627776) ∧ (0 ≤ p.deadline ∧ p.deadline ≤ 1099511627776) ∧ (0 ≤ p.pace ∧ p.pace ≤ 1099511627776) ∧ (0 ≤ p.again ∧ p.again ≤ 1099511627776) ∧ (0 ≤ p.bag ∧ p.bag ≤ 1099511627776)) ∧ 0 ≤ p.first ∧ p.first ≤ 18446744073709551615
theorem fin_rhead {p : A_rhead} {K : KE} (hK : out_rhead p K = true) (r : R_rhead) (h : po_rhead p r) : K (.sy (.str r.s)) .leaf 0 = true := ifB_use h (allB_ok hK r)
theorem vf_rhead (p : A_rhead) (K : KE) (hpre : pre_rhead p) (hK : out_rhead p K = true) : (funE 0 (cfT nat_head) lp_rhead 600 ft_rhead (I_rhead p).1 (I_rhead p).2.1 (I_rhead p).2.2 K) = true := by
  refine Eq.trans (b := (useC (((.cons 4 (.sy (.int 0 0)) (.cons 3 (.sy (.str (([] : List Nat).map UInt8.ofNat))) (.cons 1 (.ptr 0 0) .nil))), (.node .leaf (some (.blk false 25 8 [[.sy (.imm p.hg 3 GrR p.gs encG), .sy (.int 0 p.clients), .sy (.int 0 p.window), .sy (.int 0 p.deadline), .sy (.int 0 p.pace), .sy (.int 0 p.again), .sy (.int 0 p.bag), .sy (.int 4 p.first)]])) .leaf), 1)) I_l_rhead pre_l_rhead po_l_rhead fun p1 r1 => mP (InR 4 p1.clients) (mP (((.int 0 p1.clients) : SY) = (.int 0 p1.clients)) (mP (r1.c.length + (([99, 108, 105, 101, 110, 116, 115] : List Nat).map UInt8.ofNat).length ≤ 9223372036854775807) (mP ((r1.c ++ (([99, 108, 105, 101, 110, 116, 115] : List Nat).map UInt8.ofNat)).length + (([32] : List Nat).map UInt8.ofNat).length ≤ 9223372036854775807) (mP (InR 4 p1.clients) (mP (((r1.c ++ (([99, 108, 105, 101, 110, 116, 115] : List Nat).map UInt8.ofNat)) ++ (([32] : List Nat).map UInt8.ofNat)).length + (Lib.itoa p1.clients).length ≤ 9223372036854775807) (mP ((((r1.c ++ (([99, 108, 105, 101, 110, 116, 115] : List Nat).map UInt8.ofNat)) ++ (([32] : List Nat).map UInt8.ofNat)) ++ (Lib.itoa p1.clients)).length + (([10] : List Nat).map UInt8.ofNat).length ≤ 9223372036854775807) (mP (InR 4 p1.window) (mP (((.int 0 p1.window) : SY) = (.int 0 p1.window)) (mP (((((r1.c ++ (([99, 108, 105, 101, 110, 116, 115] : List Nat).map UInt8.ofNat)) ++ (([32] : List Nat).map UInt8.ofNat)) ++ (Lib.itoa p1.clients)) ++ (([10] : List Nat).map UInt8.ofNat)).length + (([119, 105, 110, 100, 111, 119] : List Nat).map UInt8.ofNat).length ≤ 9223372036854775807) (mP ((((((r1.c ++ (([99, 108, 105, 101, 110, 116, 115] : List Nat).map UInt8.ofNat)) ++ (([32] : List Nat).map UInt8.ofNat)) ++ (Lib.itoa p1.clients)) ++ (([10] : List Nat).map UInt8.ofNat)) ++ (([119, 105, 110, 100, 111, 119] : List Nat).map UInt8.ofNat)).length + (([32] : List Nat).map UInt8.ofNat).length ≤ 9223372036854775807) (mP (InR 4 p1.window) (mP (((((((r1.c ++ (([99, 108, 105, 101, 110, 116, 115] : List Nat).map UInt8.ofNat)) ++ (([32] : List Nat).map UInt8.ofNat)) ++ (Lib.itoa p1.clients)) ++ (([10] : List Nat).map UInt8.ofNat)) ++ (([119, 105, 110, 100, 111, 119] : List Nat).map UInt8.ofNat)) ++ (([32] : List Nat).map UInt8.ofNat)).length + (Lib.itoa p1.window).length ≤ 9223372036854775807) (mP ((((((((r1.c ++ (([99, 108, 105, 101, 110, 116, 115] : List Nat).map UInt8.ofNat)) ++ (([32] : List Nat).map UInt8.ofNat)) ++ (Lib.itoa p1.clients)) ++ (([10] : List Nat).map UInt8.ofNat)) ++ (([119, 105, 110, 100, 111, 119] : List Nat).map UInt8.ofNat)) ++ (([32] : List Nat).map UInt8.ofNat)) ++ (Lib.itoa p1.window)).length + (([10] : List Nat).map UInt8.ofNat).length ≤ 9223372036854775807) (mP (InR 4 p1.deadline) (mP (((.int 0 p1.deadline) : SY) = (.int 0 p1.deadline)) (mP (((((((((r1.c ++ (([99, 108, 105, 101, 110, 116, 115] : List Nat).map UInt8.ofNat)) ++ (([32] : List Nat).map UInt8.ofNat)) ++ (Lib.itoa p1.clients)) ++ (([10] : List Nat).map UInt8.ofNat)) ++ (([119, 105, 110, 100, 111, 119] : List Nat).map UInt8.ofNat)) ++ (([32] : List Nat).map UInt8.ofNat)) ++ (Lib.itoa p1.window)) ++ (([10] : List Nat).map UInt8.ofNat)).length + (([100, 101, 97, 100, 108, 105, 110, 101] : List Nat).map UInt8.ofNat).length ≤ 9223372036854775807) (mP ((((((((((r1.c ++ (([99, 108, 105, 101, 110, 116, 115] : List Nat).map UInt8.ofNat)) ++ (([32] : List Nat).map UInt8.ofNat)) ++ (Lib.itoa p1.clients)) ++ (([10] : List Nat).map UInt8.ofNat)) ++ (([119, 105, 110, 100, 111, 119] : List Nat).map UInt8.ofNat)) ++ (([32] : List Nat).map UInt8.ofNat)) ++ (Lib.itoa p1.window)) ++ (([10] : List Nat).map UInt8.ofNat)) ++ (([100, 101, 97, 100, 108, 105, 110, 101] : List Nat).map UInt8.ofNat)).length + (([32] : List Nat).map UInt8.ofNat).length ≤ 9223372036854775807) (mP (InR 4 p1.deadline) (mP (((((((((((r1.c ++ (([99, 108, 105, 101, 110, 116, 115] : List Nat).map UInt8.ofNat)) ++ (([32] : List Nat).map UInt8.ofNat)) ++ (Lib.itoa p1.clients)) ++ (([10] : List Nat).map UInt8.ofNat)) ++ (([119, 105, 110, 100, 111, 119] : List Nat).map UInt8.ofNat)) ++ (([32] : List Nat).map UInt8.ofNat)) ++ (Lib.itoa p1.window)) ++ (([10] : List Nat).map UInt8.ofNat)) ++ (([100, 101, 97, 100, 108, 105, 110, 101] : List Nat).map UInt8.ofNat)) ++ (([32] : List Nat).map UInt8.ofNat)).length + (Lib.itoa p1.deadline).length ≤ 9223372036854775807) (mP ((((((((((((r1.c ++ (([99, 108, 105, 101, 110, 116, 115] : List Nat).map UInt8.ofNat)) ++ (([32] : List Nat).map UInt8.ofNat)) ++ (Lib.itoa p1.clients)) ++ (([10] : List Nat).map UInt8.ofNat)) ++ (([119, 105, 110, 100, 111, 119] : List Nat).map UInt8.ofNat)) ++ (([32] : List Nat).map UInt8.ofNat)) ++ (Lib.itoa p1.window)) ++ (([10] : List Nat).map UInt8.ofNat)) ++ (([100, 101, 97, 100, 108, 105, 110, 101] : List Nat).map UInt8.ofNat)) ++ (([32] : List Nat).map UInt8.ofNat)) ++ (Lib.itoa p1.deadline)).length + (([10] : List Nat).map UInt8.ofNat).length ≤ 9223372036854775807) (mP (InR 4 p1.pace) (mP (((.int 0 p1.pace) : SY) = (.int 0 p1.pace)) (mP (((((((((((((r1.c ++ (([99, 108, 105, 101, 110, 116, 115] : List Nat).map UInt8.ofNat)) ++ (([32] : List Nat).map UInt8.ofNat)) ++ (Lib.itoa p1.clients)) ++ (([10] : List Nat).map UInt8.ofNat)) ++ (([119, 105, 110, 100, 111, 119] : List Nat).map UInt8.ofNat)) ++ (([32] : List Nat).map UInt8.ofNat)) ++ (Lib.itoa p1.window)) ++ (([10] : List Nat).map UInt8.ofNat)) ++ (([100, 101, 97, 100, 108, 105, 110, 101] : List Nat).map UInt8.ofNat)) ++ (([32] : List Nat).map UInt8.ofNat)) ++ (Lib.itoa p1.deadline)) ++ (([10] : List Nat).map UInt8.ofNat)).length + (([112, 97, 99, 101] : List Nat).map UInt8.ofNat).length ≤ 9223372036854775807) (mP ((((((((((((((r1.c ++ (([99, 108, 105, 101, 110, 116, 115] : List Nat).map UInt8.ofNat)) ++ (([32] : List Nat).map UInt8.ofNat)) ++ (Lib.itoa p1.clients)) ++ (([10] : List Nat).map UInt8.ofNat)) ++ (([119, 105, 110, 100, 111, 119] : List Nat).map UInt8.ofNat)) ++ (([32] : List Nat).map UInt8.ofNat)) ++ (Lib.itoa p1.window)) ++ (([10] : List Nat).map UInt8.ofNat)) ++ (([100, 101, 97, 100, 108, 105, 110, 101] : List Nat).map UInt8.ofNat)) ++ (([32] : List Nat).map UInt8.ofNat)) ++ (Lib.itoa p1.deadline)) ++ (([10] : List Nat).map UInt8.ofNat)) ++ (([112, 97, 99, 101] : List Nat).map UInt8.ofNat)).length + (([32] : List Nat).map UInt8.ofNat).length ≤ 9223372036854775807) (mP (InR 4 p1.pace) (mP (((((((((((((((r1.c ++ (([99, 108, 105, 101, 110, 116, 115] : List Nat).map UInt8.ofNat)) ++ (([32] : List Nat).map UInt8.ofNat)) ++ (Lib.itoa p1.clients)) ++ (([10] : List Nat).map UInt8.ofNat)) ++ (([119, 105, 110, 100, 111, 119] : List Nat).map UInt8.ofNat)) ++ (([32] : List Nat).map UInt8.ofNat)) ++ (Lib.itoa p1.window)) ++ (([10] : List Nat).map UInt8.ofNat)) ++ (([100, 101, 97, 100, 108, 105, 110, 101] : List Nat).map UInt8.ofNat)) ++ (([32] : List Nat).map UInt8.ofNat)) ++ (Lib.itoa p1.deadline)) ++ (([10] : List Nat).map UInt8.ofNat)) ++ (([112, 97, 99, 101] : List Nat).map UInt8.ofNat)) ++ (([32] : List Nat).map UInt8.ofNat)).length + (Lib.itoa p1.pace).length ≤ 9223372036854775807) (mP ((((((((((((((((r1.c ++ (([99, 108, 105, 101, 110, 116, 115] : List Nat).map UInt8.ofNat)) ++ (([32] : List Nat).map UInt8.ofNat)) ++ (Lib.itoa p1.clients)) ++ (([10] : List Nat).map UInt8.ofNat)) ++ (([119, 105, 110, 100, 111, 119] : List Nat).map UInt8.ofNat)) ++ (([32] : List Nat).map UInt8.ofNat)) ++ (Lib.itoa p1.window)) ++ (([10] : List Nat).map UInt8.ofNat)) ++ (([100, 101, 97, 100, 108, 105, 110, 101] : List Nat).map UInt8.ofNat)) ++ (([32] : List Nat).map UInt8.ofNat)) ++ (Lib.itoa p1.deadline)) ++ (([10] : List Nat).map UInt8.ofNat)) ++ (([112, 97, 99, 101] : List Nat).map UInt8.ofNat)) ++ (([32] : List Nat).map UInt8.ofNat)) ++ (Lib.itoa p1.pace)).length + (([10] : List Nat).map UInt8.ofNat).length ≤ 9223372036854775807) (mP (InR 4 p1.again) (mP (((.int 0 p1.again) : SY) = (.int 0 p1.again)) (mP (((((((((((((((((r1.c ++ (([99, 108, 105, 101, 110, 116, 115] : List Nat).map UInt8.ofNat)) ++ (([32] : List Nat).map UInt8.ofNat)) ++ (Lib.itoa p1.clients)) ++ (([10] : List Nat).map UInt8.ofNat)) ++ (([119, 105, 110, 100, 111, 119] : List Nat).map UInt8.ofNat)) ++ (([32] : List Nat).map UInt8.ofNat)) ++ (Lib.itoa p1.window)) ++ (([10] : List Nat).map UInt8.ofNat)) ++ (([100, 101, 97, 100, 108, 105, 110, 101] : List Nat).map UInt8.ofNat)) ++ (([32] : List Nat).map UInt8.ofNat)) ++ (Lib.itoa p1.deadline)) ++ (([10] : List Nat).map UInt8.ofNat)) ++ (([112, 97, 99, 101] : List Nat).map UInt8.ofNat)) ++ (([32] : List Nat).map UInt8.ofNat)) ++ (Lib.itoa p1.pace)) ++ (([10] : List Nat).map UInt8.ofNat)).length + (([97, 103, 97, 105, 110] : List Nat).map UInt8.ofNat).length ≤ 9223372036854775807) (mP ((((((((((((((((((r1.c ++ (([99, 108, 105, 101, 110, 116, 115] : List Nat).map UInt8.ofNat)) ++ (([32] : List Nat).map UInt8.ofNat)) ++ (Lib.itoa p1.clients)) ++ (([10] : List Nat).map UInt8.ofNat)) ++ (([119, 105, 110, 100, 111, 119] : List Nat).map UInt8.ofNat)) ++ (([32] : List Nat).map UInt8.ofNat)) ++ (Lib.itoa p1.window)) ++ (([10] : List Nat).map UInt8.ofNat)) ++ (([100, 101, 97, 100, 108, 105, 110, 101] : List Nat).map UInt8.ofNat)) ++ (([32] : List Nat).map UInt8.ofNat)) ++ (Lib.itoa p1.deadline)) ++ (([10] : List Nat).map UInt8.ofNat)) ++ (([112, 97, 99, 101] : List Nat).map UInt8.ofNat)) ++ (([32] : List Nat).map UInt8.ofNat)) ++ (Lib.itoa p1.pace)) ++ (([10] : List Nat).map UInt8.ofNat)) ++ (([97, 103, 97, 105, 110] : List Nat).map UInt8.ofNat)).length + (([32] : List Nat).map UInt8.ofNat).length ≤ 9223372036854775807) (mP (InR 4 p1.again) (mP (((((((((((((((((((r1.c ++ (([99, 108, 105, 101, 110, 116, 115] : List Nat).map UInt8.ofNat)) ++ (([32] : List Nat).map UInt8.ofNat)) ++ (Lib.itoa p1.clients)) ++ (([10] : List Nat).map UInt8.ofNat)) ++ (([119, 105, 110, 100, 111, 119] : List Nat).map UInt8.ofNat)) ++ (([32] : List Nat).map UInt8.ofNat)) ++ (Lib.itoa p1.window)) ++ (([10] : List Nat).map UInt8.ofNat)) ++ (([100, 101, 97, 100, 108, 105, 110, 101] : List Nat).map UInt8.ofNat)) ++ (([32] : List Nat).map UInt8.ofNat)) ++ (Lib.itoa p1.deadline)) ++ (([10] : List Nat).map UInt8.ofNat)) ++ (([112, 97, 99, 101] : List Nat).map UInt8.ofNat)) ++ (([32] : List Nat).map UInt8.ofNat)) ++ (Lib.itoa p1.pace)) ++ (([10] : List Nat).map UInt8.ofNat)) ++ (([97, 103, 97, 105, 110] : List Nat).map UInt8.ofNat)) ++ (([32] : List Nat).map UInt8.ofNat)).length + (Lib.itoa p1.again).length ≤ 9223372036854775807) (mP ((((((((((((((((((((r1.c ++ (([99, 108, 105, 101, 110, 116, 115] : List Nat).map UInt8.ofNat)) ++ (([32] : List Nat).map UInt8.ofNat)) ++ (Lib.itoa p1.clients)) ++ (([10] : List Nat).map UInt8.ofNat)) ++ (([119, 105, 110, 100, 111, 119] : List Nat).map UInt8.ofNat)) ++ (([32] : List Nat).map UInt8.ofNat)) ++ (Lib.itoa p1.window)) ++ (([10] : List Nat).map UInt8.ofNat)) ++ (([100, 101, 97, 100, 108, 105, 110, 101] : List Nat).map UInt8.ofNat)) ++ (([32] : List Nat).map UInt8.ofNat)) ++ (Lib.itoa p1.deadline)) ++ (([10] : List Nat).map UInt8.ofNat)) ++ (([112, 97, 99, 101] : List Nat).map UInt8.ofNat)) ++ (([32] : List Nat).map UInt8.ofNat)) ++ (Lib.itoa p1.pace)) ++ (([10] : List Nat).map UInt8.ofNat)) ++ (([97, 103, 97, 105, 110] : List Nat).map UInt8.ofNat)) ++ (([32] : List Nat).map UInt8.ofNat)) ++ (Lib.itoa p1.again)).length + (([10] : List Nat).map UInt8.ofNat).length ≤ 9223372036854775807) (mP (InR 4 p1.bag) (mP (((.int 0 p1.bag) : SY) = (.int 0 p1.bag)) (mP (((((((((((((((((((((r1.c ++ (([99, 108, 105, 101, 110, 116, 115] : List Nat).map UInt8.ofNat)) ++ (([32] : List Nat).map UInt8.ofNat)) ++ (Lib.itoa p1.clients)) ++ (([10] : List Nat).map UInt8.ofNat)) ++ (([119, 105, 110, 100, 111, 119] : List Nat).map UInt8.ofNat)) ++ (([32] : List Nat).map UInt8.ofNat)) ++ (Lib.itoa p1.window)) ++ (([10] : List Nat).map UInt8.ofNat)) ++ (([100, 101, 97, 100, 108, 105, 110, 101] : List Nat).map UInt8.ofNat)) ++ (([32] : List Nat).map UInt8.ofNat)) ++ (Lib.itoa p1.deadline)) ++ (([10] : List Nat).map UInt8.ofNat)) ++ (([112, 97, 99, 101] : List Nat).map UInt8.ofNat)) ++ (([32] : List Nat).map UInt8.ofNat)) ++ (Lib.itoa p1.pace)) ++ (([10] : List Nat).map UInt8.ofNat)) ++ (([97, 103, 97, 105, 110] : List Nat).map UInt8.ofNat)) ++ (([32] : List Nat).map UInt8.ofNat)) ++ (Lib.itoa p1.again)) ++ (([10] : List Nat).map UInt8.ofNat)).length + (([98, 97, 103] : List Nat).map UInt8.ofNat).length ≤ 9223372036854775807) (mP ((((((((((((((((((((((r1.c ++ (([99, 108, 105, 101, 110, 116, 115] : List Nat).map UInt8.ofNat)) ++ (([32] : List Nat).map UInt8.ofNat)) ++ (Lib.itoa p1.clients)) ++ (([10] : List Nat).map UInt8.ofNat)) ++ (([119, 105, 110, 100, 111, 119] : List Nat).map UInt8.ofNat)) ++ (([32] : List Nat).map UInt8.ofNat)) ++ (Lib.itoa p1.window)) ++ (([10] : List Nat).map UInt8.ofNat)) ++ (([100, 101, 97, 100, 108, 105, 110, 101] : List Nat).map UInt8.ofNat)) ++ (([32] : List Nat).map UInt8.ofNat)) ++ (Lib.itoa p1.deadline)) ++ (([10] : List Nat).map UInt8.ofNat)) ++ (([112, 97, 99, 101] : List Nat).map UInt8.ofNat)) ++ (([32] : List Nat).map UInt8.ofNat)) ++ (Lib.itoa p1.pace)) ++ (([10] : List Nat).map UInt8.ofNat)) ++ (([97, 103, 97, 105, 110] : List Nat).map UInt8.ofNat)) ++ (([32] : List Nat).map UInt8.ofNat)) ++ (Lib.itoa p1.again)) ++ (([10] : List Nat).map UInt8.ofNat)) ++ (([98, 97, 103] : List Nat).map UInt8.ofNat)).length + (([32] : List Nat).map UInt8.ofNat).length ≤ 9223372036854775807) (mP (InR 4 p1.bag) (mP (((((((((((((((((((((((r1.c ++ (([99, 108, 105, 101, 110, 116, 115] : List Nat).map UInt8.ofNat)) ++ (([32] : List Nat).map UInt8.ofNat)) ++ (Lib.itoa p1.clients)) ++ (([10] : List Nat).map UInt8.ofNat)) ++ (([119, 105, 110, 100, 111, 119] : List Nat).map UInt8.ofNat)) ++ (([32] : List Nat).map UInt8.ofNat)) ++ (Lib.itoa p1.window)) ++ (([10] : List Nat).map UInt8.ofNat)) ++ (([100, 101, 97, 100, 108, 105, 110, 101] : List Nat).map UInt8.ofNat)) ++ (([32] : List Nat).map UInt8.ofNat)) ++ (Lib.itoa p1.deadline)) ++ (([10] : List Nat).map UInt8.ofNat)) ++ (([112, 97, 99, 101] : List Nat).map UInt8.ofNat)) ++ (([32] : List Nat).map UInt8.ofNat)) ++ (Lib.itoa p1.pace)) ++ (([10] : List Nat).map UInt8.ofNat)) ++ (([97, 103, 97, 105, 110] : List Nat).map UInt8.ofNat)) ++ (([32] : List Nat).map UInt8.ofNat)) ++ (Lib.itoa p1.again)) ++ (([10] : List Nat).map UInt8.ofNat)) ++ (([98, 97, 103] : List Nat).map UInt8.ofNat)) ++ (([32] : List Nat).map UInt8.ofNat)).length + (Lib.itoa p1.bag).length ≤ 9223372036854775807) (mP ((((((((((((((((((((((((r1.c ++ (([99, 108, 105, 101, 110, 116, 115] : List Nat).map UInt8.ofNat)) ++ (([32] : List Nat).map UInt8.ofNat)) ++ (Lib.itoa p1.clients)) ++ (([10] : List Nat).map UInt8.ofNat)) ++ (([119, 105, 110, 100, 111, 119] : List Nat).map UInt8.ofNat)) ++ (([32] : List Nat).map UInt8.ofNat)) ++ (Lib.itoa p1.window)) ++ (([10] : List Nat).map UInt8.ofNat)) ++ (([100, 101, 97, 100, 108, 105, 110, 101] : List Nat).map UInt8.ofNat)) ++ (([32] : List Nat).map UInt8.ofNat)) ++ (Lib.itoa p1.deadline)) ++ (([10] : List Nat).map UInt8.ofNat)) ++ (([112, 97, 99, 101] : List Nat).map UInt8.ofNat)) ++ (([32] : List Nat).map UInt8.ofNat)) ++ (Lib.itoa p1.pace)) ++ (([10] : List Nat).map UInt8.ofNat)) ++ (([97, 103, 97, 105, 110] : List Nat).map UInt8.ofNat)) ++ (([32] : List Nat).map UInt8.ofNat)) ++ (Lib.itoa p1.again)) ++ (([10] : List Nat).map UInt8.ofNat)) ++ (([98, 97, 103] : List Nat).map UInt8.ofNat)) ++ (([32] : List Nat).map UInt8.ofNat)) ++ (Lib.itoa p1.bag)).length + (([10] : List Nat).map UInt8.ofNat).length ≤ 9223372036854775807) (mP (((((((((((((((((((((((((r1.c ++ (([99, 108, 105, 101, 110, 116, 115] : List Nat).map UInt8.ofNat)) ++ (([32] : List Nat).map UInt8.ofNat)) ++ (Lib.itoa p1.clients)) ++ (([10] : List Nat).map UInt8.ofNat)) ++ (([119, 105, 110, 100, 111, 119] : List Nat).map UInt8.ofNat)) ++ (([32] : List Nat).map UInt8.ofNat)) ++ (Lib.itoa p1.window)) ++ (([10] : List Nat).map UInt8.ofNat)) ++ (([100, 101, 97, 100, 108, 105, 110, 101] : List Nat).map UInt8.ofNat)) ++ (([32] : List Nat).map UInt8.ofNat)) ++ (Lib.itoa p1.deadline)) ++ (([10] : List Nat).map UInt8.ofNat)) ++ (([112, 97, 99, 101] : List Nat).map UInt8.ofNat)) ++ (([32] : List Nat).map UInt8.ofNat)) ++ (Lib.itoa p1.pace)) ++ (([10] : List Nat).map UInt8.ofNat)) ++ (([97, 103, 97, 105, 110] : List Nat).map UInt8.ofNat)) ++ (([32] : List Nat).map UInt8.ofNat)) ++ (Lib.itoa p1.again)) ++ (([10] : List Nat).map UInt8.ofNat)) ++ (([98, 97, 103] : List Nat).map UInt8.ofNat)) ++ (([32] : List Nat).map UInt8.ofNat)) ++ (Lib.itoa p1.bag)) ++ (([10] : List Nat).map UInt8.ofNat)).length + (([102, 105, 114, 115, 116, 32] : List Nat).map UInt8.ofNat).length ≤ 9223372036854775807) (mP (InR 4 p1.first) (mP ((((((((((((((((((((((((((r1.c ++ (([99, 108, 105, 101, 110, 116, 115] : List Nat).map UInt8.ofNat)) ++ (([32] : List Nat).map UInt8.ofNat)) ++ (Lib.itoa p1.clients)) ++ (([10] : List Nat).map UInt8.ofNat)) ++ (([119, 105, 110, 100, 111, 119] : List Nat).map UInt8.ofNat)) ++ (([32] : List Nat).map UInt8.ofNat)) ++ (Lib.itoa p1.window)) ++ (([10] : List Nat).map UInt8.ofNat)) ++ (([100, 101, 97, 100, 108, 105, 110, 101] : List Nat).map UInt8.ofNat)) ++ (([32] : List Nat).map UInt8.ofNat)) ++ (Lib.itoa p1.deadline)) ++ (([10] : List Nat).map UInt8.ofNat)) ++ (([112, 97, 99, 101] : List Nat).map UInt8.ofNat)) ++ (([32] : List Nat).map UInt8.ofNat)) ++ (Lib.itoa p1.pace)) ++ (([10] : List Nat).map UInt8.ofNat)) ++ (([97, 103, 97, 105, 110] : List Nat).map UInt8.ofNat)) ++ (([32] : List Nat).map UInt8.ofNat)) ++ (Lib.itoa p1.again)) ++ (([10] : List Nat).map UInt8.ofNat)) ++ (([98, 97, 103] : List Nat).map UInt8.ofNat)) ++ (([32] : List Nat).map UInt8.ofNat)) ++ (Lib.itoa p1.bag)) ++ (([10] : List Nat).map UInt8.ofNat)) ++ (([102, 105, 114, 115, 116, 32] : List Nat).map UInt8.ofNat)).length + (Lib.itoa p1.first).length ≤ 9223372036854775807) (mP (((((((((((((((((((((((((((r1.c ++ (([99, 108, 105, 101, 110, 116, 115] : List Nat).map UInt8.ofNat)) ++ (([32] : List Nat).map UInt8.ofNat)) ++ (Lib.itoa p1.clients)) ++ (([10] : List Nat).map UInt8.ofNat)) ++ (([119, 105, 110, 100, 111, 119] : List Nat).map UInt8.ofNat)) ++ (([32] : List Nat).map UInt8.ofNat)) ++ (Lib.itoa p1.window)) ++ (([10] : List Nat).map UInt8.ofNat)) ++ (([100, 101, 97, 100, 108, 105, 110, 101] : List Nat).map UInt8.ofNat)) ++ (([32] : List Nat).map UInt8.ofNat)) ++ (Lib.itoa p1.deadline)) ++ (([10] : List Nat).map UInt8.ofNat)) ++ (([112, 97, 99, 101] : List Nat).map UInt8.ofNat)) ++ (([32] : List Nat).map UInt8.ofNat)) ++ (Lib.itoa p1.pace)) ++ (([10] : List Nat).map UInt8.ofNat)) ++ (([97, 103, 97, 105, 110] : List Nat).map UInt8.ofNat)) ++ (([32] : List Nat).map UInt8.ofNat)) ++ (Lib.itoa p1.again)) ++ (([10] : List Nat).map UInt8.ofNat)) ++ (([98, 97, 103] : List Nat).map UInt8.ofNat)) ++ (([32] : List Nat).map UInt8.ofNat)) ++ (Lib.itoa p1.bag)) ++ (([10] : List Nat).map UInt8.ofNat)) ++ (([102, 105, 114, 115, 116, 32] : List Nat).map UInt8.ofNat)) ++ (Lib.itoa p1.first)).length + (([10] : List Nat).map UInt8.ofNat).length ≤ 9223372036854775807) (K (.sy (.str (((((((((((((((((((((((((((r1.c ++ (([99, 108, 105, 101, 110, 116, 115] : List Nat).map UInt8.ofNat)) ++ (([32] : List Nat).map UInt8.ofNat)) ++ (Lib.itoa p1.clients)) ++ (([10] : List Nat).map UInt8.ofNat)) ++ (([119, 105, 110, 100, 111, 119] : List Nat).map UInt8.ofNat)) ++ (([32] : List Nat).map UInt8.ofNat)) ++ (Lib.itoa p1.window)) ++ (([10] : List Nat).map UInt8.ofNat)) ++ (([100, 101, 97, 100, 108, 105, 110, 101] : List Nat).map UInt8.ofNat)) ++ (([32] : List Nat).map UInt8.ofNat)) ++ (Lib.itoa p1.deadline)) ++ (([10] : List Nat).map UInt8.ofNat)) ++ (([112, 97, 99, 101] : List Nat).map UInt8.ofNat)) ++ (([32] : List Nat).map UInt8.ofNat)) ++ (Lib.itoa p1.pace)) ++ (([10] : List Nat).map UInt8.ofNat)) ++ (([97, 103, 97, 105, 110] : List Nat).map UInt8.ofNat)) ++ (([32] : List Nat).map UInt8.ofNat)) ++ (Lib.itoa p1.again)) ++ (([10] : List Nat).map UInt8.ofNat)) ++ (([98, 97, 103] : List Nat).map UInt8.ofNat)) ++ (([32] : List Nat).map UInt8.ofNat)) ++ (Lib.itoa p1.bag)) ++ (([10] : List Nat).map UInt8.ofNat)) ++ (([102, 105, 114, 115, 116, 32] : List Nat).map UInt8.ofNat)) ++ (Lib.itoa p1.first)) ++ (([10] : List Nat).map UInt8.ofNat)))) .leaf 0)))))))))))))))))))))))))))))))))))))))))))))))) (by kernel_rfl) ?_
  dsimp only [pre_rhead] at hpre
  obtain ⟨q1, q2, q3, q4⟩ := hpre
  have qi0 := itoaU (z := p.clients) (by omega) (by omega)
  have qi1 := itoaU (z := p.window) (by omega) (by omega)
  have qi2 := itoaU (z := p.deadline) (by omega) (by omega)
  have qi3 := itoaU (z := p.pace) (by omega) (by omega)
  have qi4 := itoaU (z := p.again) (by omega) (by omega)
  have qi5 := itoaU (z := p.bag) (by omega) (by omega)
  have qi6 := itoaU (z := p.first) (by omega) (by omega)
  refine callPR (⟨p.hg, p.gs, p.clients, p.window, p.deadline, p.pace, p.again, p.bag, p.first, ([] : List Nat).map UInt8.ofNat, (0 : Int)⟩ : A_l_rhead) rfl (by (try dsimp only [pre_l_rhead]) ; exact ⟨by omega, by omega, by omega, q2, by simp⟩) fun r1 hi1 => ?_
  dsimp only [po_l_rhead] at hi1
  refine mI (by simp only [InR] ; omega) (mI (rfl) (mI (by (try simp only [List.length_append, List.length_map, List.length_cons, List.length_nil]) ; omega) (mI (by (try simp only [List.length_append, List.length_map, List.length_cons, List.length_nil]) ; omega) (mI (by simp only [InR] ; omega) (mI (by (try dsimp only) ; (try simp only [List.length_append, List.length_map, List.length_cons, List.length_nil]) ; omega) ?_)))))
  refine mI (by (try dsimp only) ; (try simp only [List.length_append, List.length_map, List.length_cons, List.length_nil]) ; omega) (mI (by simp only [InR] ; omega) (mI (rfl) (mI (by (try dsimp only) ; (try simp only [List.length_append, List.length_map, List.length_cons, List.length_nil]) ; omega) (mI (by (try dsimp only) ; (try simp only [List.length_append, List.length_map, List.length_cons, List.length_nil]) ; omega) ?_))))
  refine mI (by simp only [InR] ; omega) (mI (by (try dsimp only) ; (try simp only [List.length_append, List.length_map, List.length_cons, List.length_nil]) ; omega) (mI (by (try dsimp only) ; (try simp only [List.length_append, List.length_map, List.length_cons, List.length_nil]) ; omega) (mI (by simp only [InR] ; omega) (mI (rfl) (mI (by (try dsimp only) ; (try simp only [List.length_append, List.length_map, List.length_cons, List.length_nil]) ; omega) ?_)))))
  refine mI (by (try dsimp only) ; (try simp only [List.length_append, List.length_map, List.length_cons, List.length_nil]) ; omega) (mI (by simp only [InR] ; omega) (mI (by (try dsimp only) ; (try simp only [List.length_append, List.length_map, List.length_cons, List.length_nil]) ; omega) (mI (by (try dsimp only) ; (try simp only [List.length_append, List.length_map, List.length_cons, List.length_nil]) ; omega) ?_)))
  refine mI (by simp only [InR] ; omega) (mI (rfl) (mI (by (try dsimp only) ; (try simp only [List.length_append, List.length_map, List.length_cons, List.length_nil]) ; omega) (mI (by (try dsimp only) ; (try simp only [List.length_append, List.length_map, List.length_cons, List.length_nil]) ; omega) (mI (by simp only [InR] ; omega) (mI (by (try dsimp only) ; (try simp only [List.length_append, List.length_map, List.length_cons, List.length_nil]) ; omega) ?_)))))
  refine mI (by (try dsimp only) ; (try simp only [List.length_append, List.length_map, List.length_cons, List.length_nil]) ; omega) (mI (by simp only [InR] ; omega) (mI (rfl) (mI (by (try dsimp only) ; (try simp only [List.length_append, List.length_map, List.length_cons, List.length_nil]) ; omega) (mI (by (try dsimp only) ; (try simp only [List.length_append, List.length_map, List.length_cons, List.length_nil]) ; omega) ?_))))
  refine mI (by simp only [InR] ; omega) (mI (by (try dsimp only) ; (try simp only [List.length_append, List.length_map, List.length_cons, List.length_nil]) ; omega) (mI (by (try dsimp only) ; (try simp only [List.length_append, List.length_map, List.length_cons, List.length_nil]) ; omega) (mI (by simp only [InR] ; omega) (mI (rfl) (mI (by (try dsimp only) ; (try simp only [List.length_append, List.length_map, List.length_cons, List.length_nil]) ; omega) ?_)))))
  refine mI (by (try dsimp only) ; (try simp only [List.length_append, List.length_map, List.length_cons, List.length_nil]) ; omega) (mI (by simp only [InR] ; omega) (mI (by (try dsimp only) ; (try simp only [List.length_append, List.length_map, List.length_cons, List.length_nil]) ; omega) (mI (by (try dsimp only) ; (try simp only [List.length_append, List.length_map, List.length_cons, List.length_nil]) ; omega) ?_)))
  refine mI (by (try dsimp only) ; (try simp only [List.length_append, List.length_map, List.length_cons, List.length_nil]) ; omega) (mI (by simp only [InR] ; omega) (mI (by (try dsimp only) ; (try simp only [List.length_append, List.length_map, List.length_cons, List.length_nil]) ; omega) (mI (by (try dsimp only) ; (try simp only [List.length_append, List.length_map, List.length_cons, List.length_nil]) ; omega) ?_)))
  exact fin_rhead hK ⟨((((((((((((((((((((((((((r1.c ++ (([99, 108, 105, 101, 110, 116, 115] : List Nat).map UInt8.ofNat)) ++ (([32] : List Nat).map UInt8.ofNat)) ++ (Lib.itoa p.clients)) ++ (([10] : List Nat).map UInt8.ofNat)) ++ (([119, 105, 110, 100, 111, 119] : List Nat).map UInt8.ofNat)) ++ (([32] : List Nat).map UInt8.ofNat)) ++ (Lib.itoa p.window)) ++ (([10] : List Nat).map UInt8.ofNat)) ++ (([100, 101, 97, 100, 108, 105, 110, 101] : List Nat).map UInt8.ofNat)) ++ (([32] : List Nat).map UInt8.ofNat)) ++ (Lib.itoa p.deadline)) ++ (([10] : List Nat).map UInt8.ofNat)) ++ (([112, 97, 99, 101] : List Nat).map UInt8.ofNat)) ++ (([32] : List Nat).map UInt8.ofNat)) ++ (Lib.itoa p.pace)) ++ (([10] : List Nat).map UInt8.ofNat)) ++ (([97, 103, 97, 105, 110] : List Nat).map UInt8.ofNat)) ++ (([32] : List Nat).map UInt8.ofNat)) ++ (Lib.itoa p.again)) ++ (([10] : List Nat).map UInt8.ofNat)) ++ (([98, 97, 103] : List Nat).map UInt8.ofNat)) ++ (([32] : List Nat).map UInt8.ofNat)) ++ (Lib.itoa p.bag)) ++ (([10] : List Nat).map UInt8.ofNat)) ++ (([102, 105, 114, 115, 116, 32] : List Nat).map UInt8.ofNat)) ++ (Lib.itoa p.first)) ++ (([10] : List Nat).map UInt8.ofNat)⟩ (by dsimp only [po_rhead] <;> (refine ⟨?_, (by (try simp only [List.length_append, List.length_map, List.length_cons, List.length_nil]) ; omega)⟩ ; have e9 := hi1.1 ; simp only [Int.toNat_zero, List.drop_zero] at e9 ; rw [e9] ; simp [headT]))
noncomputable def nat_rhead := natC nat_head 0 (esOf I_rhead (spP pre_rhead out_rhead)) 24 [(0, 15)]
theorem nat_rhead_ok : NatsOk Tryd.prog nat_rhead := natC_ok (natE_said (f := 24) (k := 0) (lp := lp_rhead) (lf := 600) ts_mix (cfT_ok nat_head_ok) ft_rhead_ok (by rfl) (fun b j x h => (mem_step lo_l_rhead (fun h => (by cases h)) h)) fun p K h => vf_rhead p K (mustP_ok h).1 (mustP_ok h).2) nat_head_ok
end Go.Proofs.Tryd