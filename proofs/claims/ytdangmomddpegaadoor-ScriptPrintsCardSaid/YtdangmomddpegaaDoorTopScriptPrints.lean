/- any script as text, by the program and by the reference -/
import Derived.Test.YtdangmomddpegaaDoorM4
import Derived.KernelRfl
import Derived.Test.YtdangmomddpegaaDoorRows
import Derived.Test.YtdangmomddpegaaDoorTie
import Derived.Test.YtdangmomddpegaaDoorCards
import Derived.WalkKit
import Derived.ProofKit
import Derived.OpenShut
import Derived.Below
import Derived.LaidLaws
import Derived.RowKit
namespace Go.Proofs.Tryd
open Go.Proofs.YtdangmomddpegaaDoor (na_idx na_dig na_digL na_fmtU na_verb spIdx)
open Go Go.RowKit Go.Sy
open Go.Eng hiding allB
set_option maxRecDepth 1000000
set_option linter.unusedVariables false
set_option maxHeartbeats 4000000
noncomputable def textT (s : ScR) : List UInt8 := headT s.gs s.clients s.window s.deadline s.pace s.again s.bag s.first ++ (s.os.map lineT).flatten
theorem tl_eq {os : List OpR} {i : Int} {x : OpR} {w s : List UInt8} (h0 : 0 ≤ i) (hx : os[i.toNat]? = some x) (hs : s = lineT x) : (w ++ s) ++ ((os.drop (i + 1).toNat).map lineT).flatten = w ++ ((os.drop i.toNat).map lineT).flatten := by
  rw [drop_step h0 hx, hs]; simp
theorem head_pre {s : ScR} (h : scR s) (h2 : rgS s) : (1 ≤ s.gs.length ∧ s.gs.length ≤ 4) ∧ (∀ g ∈ s.gs, grR g) ∧ ((0 ≤ s.clients ∧ s.clients ≤ 1099511627776) ∧ (0 ≤ s.window ∧ s.window ≤ 1099511627776) ∧ (0 ≤ s.deadline ∧ s.deadline ≤ 1099511627776) ∧ (0 ≤ s.pace ∧ s.pace ≤ 1099511627776) ∧ (0 ≤ s.again ∧ s.again ≤ 1099511627776) ∧ (0 ≤ s.bag ∧ s.bag ≤ 1099511627776)) ∧ 0 ≤ s.first ∧ s.first ≤ 18446744073709551615 := by
  unfold scR at h
  unfold rgS at h2
  obtain ⟨a1, a2, b1, b2, b3, b4, b5, b6, _⟩ := h
  exact ⟨a1, a2, ⟨b1, b2, b3, b4, b5, b6⟩, h2.2.2.1⟩
theorem ops_of {s : ScR} (h : scR s) : ∀ o ∈ s.os, opR o := by
  unfold scR at h
  obtain ⟨_, _, _, _, _, _, _, _, h⟩ := h
  exact h
theorem rgs_of {s : ScR} (h : rgS s) : ∀ o ∈ s.os, rgO o := h.2.2.2
theorem head_ne (gs : List GrR) (a b c d e f g : Int) : ¬ ([] : List UInt8) = headT gs a b c d e f g := by
  intro h
  have h2 := congrArg List.length h
  simp [headT] at h2
def ft_print : XF := .mk 28 (.two 2 3) (.seq (g_ 3 [e_ 0 1 (.box 39 (.t 0)), p_ 1 2 (.mv (.c (.str []))), p_ 2 3 (.mv (i_ 0))]) (.seq (.seq (g_ 3 [r_ 0 7 (.ld true 9 (.t 1)), c_ 1 8 11 [.t 7], p_ 2 9 (.un 0 (.t 8))]) (.cond (.t 9) (.seq (g_ 2 [p_ 0 2 (.mv (.c (.str []))), p_ 1 3 (.mv (i_ 1))]) .ret) .skip)) (.seq (g_ 1 [e_ 0 4 (.al 56 [.nilP, .nilS])]) (.seq (g_ 4 [p_ 0 10 (f_ 0 1), r_ 1 11 (.ld true 8 (.t 10)), c_ 2 12 18 [.t 11], c_ 3 13 17 [.t 4, .t 12]]) (.seq (.seq (g_ 4 [p_ 0 14 (f_ 8 1), r_ 1 15 (l_ 14), p_ 2 16 (k_ 15), p_ 3 17 (.mv (i_ 0))]) (.block 2 (.pre [.can 0 [4, 15, 16, 17], .up 16, .up 17, .can 0 [4, 15, 16, 17]] (.inv 0 (.aft (.seq (g_ 1 [p_ 0 18 (.bin 3 0 (.t 17) (.t 16))]) (.seq (.cond (.t 18) .skip (.exit 2)) (.seq (.block 3 (.seq (g_ 4 [p_ 0 19 (.ixs 9 (.t 15) (.t 17)), r_ 1 20 (.ld true 9 (.t 19)), e_ 2 6 (.al 52 [.int 0 (.ofNat 0), .int 0 (.ofNat 0), .int 0 (.ofNat 0), .int 0 (.ofNat 0), .int 0 (.ofNat 0), .int 0 (.ofNat 0), .int 3 (.ofNat 0), .int 1 (.ofNat 0), .nilS]), e0_ 3 (.st 9 (.t 6) (.t 20))]) (.seq (g_ 3 [r_ 0 21 (.ld true 9 (.t 6)), c_ 1 22 19 [.t 21], c_ 2 23 17 [.t 4, .t 22]]) (.seq (g_ 2 [c_ 0 24 20 [.t 4], p_ 1 25 (.bin 3 2 (.t 24) (i_ 65536))]) (.cond (.t 25) (.seq (g_ 2 [p_ 0 2 (.mv (.c (.str []))), p_ 1 3 (.mv (i_ 5))]) .ret) .skip))))) (g_ 2 [p_ 0 26 (.bin 0 0 (.t 17) (i_ 1)), p_ 1 17 (m_ 26)])))) [(0, [.can 0 [4, 15, 16, 17]]), (1, [.can 0 [2, 3]]), (2, [.can 0 [4]])]))))) (.seq (g_ 3 [c_ 0 27 21 [.t 4], p_ 1 2 (m_ 27), p_ 2 3 (.mv (i_ 0))]) .ret))))))
theorem ft_print_ok : chkF Tryd.prog 7 ft_print = true := by kernel_rfl
structure A_l_pr where
  ho : Value
  os : List OpR
  b : List UInt8
  i : Int
structure R_l_pr where
  c : List UInt8
def po_l_pr (p : A_l_pr) (r : R_l_pr) : Prop := r.c = p.b ++ ((p.os.drop p.i.toNat).map lineT).flatten ∧ r.c.length ≤ 65536 ∧ r.c ≠ []
def po_l_pr1 (p : A_l_pr) : Prop := 65536 < (p.b ++ ((p.os.drop p.i.toNat).map lineT).flatten).length
noncomputable def I_l_pr (p : A_l_pr) : IL := ((.cons 17 (.sy (.int 0 p.i)) (.cons 16 (.sy (.int 0 (p.os.length : Int))) (.cons 15 (.sy (.imm p.ho 9 OpR p.os encO)) (.cons 4 (.ptr 0 0) .nil)))), (.node (.node .leaf (some (.prow 5 1 UInt8 p.b encU)) .leaf) (some (.blk false 56 2 [[.ptr 0 0, .sy (.prow 1 p.b.length)]])) .leaf), 2)
noncomputable def out_l_pr (p : A_l_pr) (K : KC) : Bool := must (allB fun r : R_l_pr => iP (po_l_pr p r) (K 2 (.cons 4 (.ptr 0 0) .nil) (.node (.node .leaf (some (.prow 5 1 UInt8 r.c encU)) .leaf) (some (.blk false 56 2 [[.ptr 0 0, .sy (.prow 1 r.c.length)]])) .leaf) 2) true) (iP (po_l_pr1 p) (K 1 (.cons 3 (.int 0 (.ofNat 5)) (.cons 2 (.str []) .nil)) .leaf 0) true)
def pre_l_pr (p : A_l_pr) : Prop := okO p.os ∧ 0 ≤ p.i ∧ p.i ≤ (p.os.length : Int) ∧ (∀ o ∈ p.os, opR o) ∧ (∀ o ∈ p.os, rgO o) ∧ p.b.length ≤ 65536 ∧ p.b ≠ []
noncomputable def sp_l_pr (p : A_l_pr) (K : KC) : Bool := must (prB (pre_l_pr p)) (out_l_pr p K)
noncomputable def lp_print : LpF := fun j S M nx K => (Bool.rec (false) (exB fun p : A_l_pr => must (prB ((S, M, nx) = I_l_pr p)) (sp_l_pr p K)) (Nat.beq j 0))
def mu_l_pr (p : A_l_pr) : Nat := ((p.os.length : Int) - p.i).toNat
theorem bk_l_pr {p q : A_l_pr} {K : KC} {s : IL} (hm : mu_l_pr q < mu_l_pr p) (hp : pre_l_pr q) (hK : out_l_pr q K = true) (e : s = I_l_pr q) : (exB fun q => mP (s = I_l_pr q ∧ mu_l_pr q < mu_l_pr p) (sp_l_pr q K)) = true := exB_mk q (mustP ⟨e, hm⟩ (mustP hp hK))
def bd_l_pr : XC := (.aft (.seq (g_ 1 [p_ 0 18 (.bin 3 0 (.t 17) (.t 16))]) (.seq (.cond (.t 18) .skip (.exit 2)) (.seq (.block 3 (.seq (g_ 4 [p_ 0 19 (.ixs 9 (.t 15) (.t 17)), r_ 1 20 (.ld true 9 (.t 19)), e_ 2 6 (.al 52 [.int 0 (.ofNat 0), .int 0 (.ofNat 0), .int 0 (.ofNat 0), .int 0 (.ofNat 0), .int 0 (.ofNat 0), .int 0 (.ofNat 0), .int 3 (.ofNat 0), .int 1 (.ofNat 0), .nilS]), e0_ 3 (.st 9 (.t 6) (.t 20))]) (.seq (g_ 3 [r_ 0 21 (.ld true 9 (.t 6)), c_ 1 22 19 [.t 21], c_ 2 23 17 [.t 4, .t 22]]) (.seq (g_ 2 [c_ 0 24 20 [.t 4], p_ 1 25 (.bin 3 2 (.t 24) (i_ 65536))]) (.cond (.t 25) (.seq (g_ 2 [p_ 0 2 (.mv (.c (.str []))), p_ 1 3 (.mv (i_ 5))]) .ret) .skip))))) (g_ 2 [p_ 0 26 (.bin 0 0 (.t 17) (i_ 1)), p_ 1 17 (m_ 26)])))) [(0, [.can 0 [4, 15, 16, 17]]), (1, [.can 0 [2, 3]]), (2, [.can 0 [4]])])
theorem vb_l_pr (p : A_l_pr) (K : KC) (hpre : pre_l_pr p) (hK : out_l_pr p K = true) : (codeX (cfT nat_rhead) lp_print 600 bd_l_pr (I_l_pr p).1 (I_l_pr p).2.1 (I_l_pr p).2.2 (fun e S M nx => Nat.casesOn e (exB fun q : A_l_pr => must (prB ((S, M, nx) = I_l_pr q ∧ mu_l_pr q < mu_l_pr p)) (sp_l_pr q K)) (fun e2 => K (Nat.succ e2) S M nx))) = true := by
  refine Eq.trans (b := (iP (p.i < (p.os.length : Int)) (mP (0 ≤ p.i ∧ p.i < (p.os.length : Int)) (allB fun x1 : OpR => iP (p.os[p.i.toNat]? = some x1) (useC (([.agg [.sy (.int 0 x1.kind), .sy (.int 0 x1.x), .sy (.int 0 x1.y), .sy (.int 0 x1.i), .sy (.int 0 x1.at_), .sy (.int 0 x1.mode), .sy (.int 3 x1.mask), .sy (.int 1 x1.grp), .sy (.imm x1.hp 5 PtR x1.ps encP)]], .leaf, 0)) I_line pre_line po_line fun p1 r1 => exB fun b1 : List UInt8 => mP (p.b.map encU = b1.map encU) (mP (p.b.length = b1.length) (mP (b1.length + r1.s.length ≤ 140737488355328) (iP ((65536 : Int) < ((b1 ++ r1.s).length : Int)) (K 1 (.cons 3 (.int 0 (.ofNat 5)) (.cons 2 (.str []) .nil)) .leaf 0) (mP (InR 0 (p.i + (1 : Int))) (exB fun q1 : A_l_pr => mP (((.cons 17 (.sy (.int 0 (p.i + (1 : Int)))) (.cons 16 (.sy (.int 0 (p.os.length : Int))) (.cons 15 (.sy (.imm p.ho 9 OpR p.os encO)) (.cons 4 (.ptr 0 0) .nil)))), (.node (.node .leaf (some (.prow 5 1 UInt8 (b1 ++ r1.s) encU)) .leaf) (some (.blk false 56 2 [[.ptr 0 0, .sy (.prow 1 ((b1 ++ r1.s).length))]])) .leaf), 2) = I_l_pr q1 ∧ mu_l_pr q1 < mu_l_pr p) (sp_l_pr q1 K))))))) true)) (K 2 (.cons 4 (.ptr 0 0) .nil) (.node (.node .leaf (some (.prow 5 1 UInt8 p.b encU)) .leaf) (some (.blk false 56 2 [[.ptr 0 0, .sy (.prow 1 p.b.length)]])) .leaf) 2))) (by kernel_rfl) ?_
  obtain ⟨hK0, hKr0⟩ := must_ok hK
  have hK1 := hKr0
  dsimp only [pre_l_pr] at hpre
  obtain ⟨g0, g1, g2, g3, g4, g5, g6⟩ := hpre
  have g9 := g0.1
  refine iI (fun hc1 => ?_) (fun hc1 => ?_)
  refine mI (by first | omega | (constructor <;> omega)) ?_
  refine allB_mk (fun x1 => ?_)
  refine iI (fun hi2 => ?_) (fun _ => rfl)
  have hg_x1 := g3 _ (List.mem_of_getElem? (by assumption : p.os[p.i.toNat]? = some x1))
  have hr_x1 := g4 _ (List.mem_of_getElem? (by assumption : p.os[p.i.toNat]? = some x1))
  have hm_x1 := g0.2 _ x1 (by assumption)
  refine callPR (⟨x1⟩ : A_line) rfl (by (try dsimp only [pre_line]) ; exact ⟨by assumption, by assumption, by assumption⟩) fun r1 hi3 => ?_
  dsimp only [po_line] at hi3
  refine exB_mk p.b ?_
  refine mI (rfl) (mI (rfl) (mI (by (try dsimp only) ; (try simp only [List.length_append, List.length_map, List.length_cons, List.length_nil]) ; omega) ?_))
  refine iI (p := (65536 : Int) < ((p.b ++ r1.s).length : Int)) (fun hc4 => ?_) (fun hc4 => ?_)
  exact ifB_use (show 65536 < (p.b ++ ((p.os.drop p.i.toNat).map lineT).flatten).length from (by have e := tl_eq (w := p.b) g1 (by assumption) hi3.1 ; rw [← e, List.length_append] ; omega)) hK1
  refine mI (by simp only [InR] ; omega) ?_
  exact bk_l_pr (q := ⟨p.ho, p.os, p.b ++ r1.s, p.i + (1 : Int)⟩) (by dsimp only [mu_l_pr] ; omega) (by dsimp only [pre_l_pr] ; exact ⟨g0, by omega, by omega, g3, g4, (by first | omega | (simp only [List.length_append] at * ; omega)), by simp [g6]⟩) (must_mk (out_weak hK0 fun r hz => ⟨by rw [hz.1] ; exact tl_eq g1 (by assumption) hi3.1, hz.2⟩) (iI (fun hz => ifB_use (by have e := tl_eq (w := p.b) g1 (by assumption) hi3.1 ; have hz2 := hz ; dsimp only [po_l_pr1] at hz2 ⊢ ; rw [e] at hz2 ; exact hz2) hK1) (fun _ => rfl))) rfl
  exact ifB_use (show p.b = p.b ++ ((p.os.drop p.i.toNat).map lineT).flatten ∧ p.b.length ≤ 65536 ∧ p.b ≠ [] from (by exact ⟨by rw [drop_out (by omega)] ; simp, g5, g6⟩)) (allB_ok hK0 (⟨p.b⟩ : R_l_pr))
theorem lo_l_pr : LpOk Tryd.prog 28 0 lp_print true 0 bd_l_pr := by
  exact lp_of (lf := 600) ts_mix (cfT_ok nat_rhead_ok) (by rfl) I_l_pr mu_l_pr sp_l_pr (fun b j x h => by cases h) (fun S M nx K h => by obtain ⟨p, h⟩ := exB_ok h; exact ⟨p, (mustP_ok h).1, (mustP_ok h).2⟩) (fun p K h => vb_l_pr p K (mustP_ok h).1 (mustP_ok h).2)
structure A_print where
  s : ScR
structure R_print2 where
  t : List UInt8
def po_print (p : A_print) : Prop := ¬ scR p.s
def po_print1 (p : A_print) : Prop := scR p.s ∧ 65536 < (textT p.s).length
def po_print2 (p : A_print) (r : R_print2) : Prop := scR p.s ∧ r.t = textT p.s ∧ r.t.length ≤ 65536
noncomputable def I_print (p : A_print) : IE := ([.agg [.sy (.imm p.s.hg 3 GrR p.s.gs encG), .sy (.int 0 p.s.clients), .sy (.int 0 p.s.window), .sy (.int 0 p.s.deadline), .sy (.int 0 p.s.pace), .sy (.int 0 p.s.again), .sy (.int 0 p.s.bag), .sy (.int 4 p.s.first), .sy (.imm p.s.ho 9 OpR p.s.os encO)]], .leaf, 0)
noncomputable def out_print (p : A_print) (K : KE) : Bool := must (iP (po_print p) (K (.tup [.str [], .int 0 (.ofNat 1)]) .leaf 0) true) (must (iP (po_print1 p) (K (.tup [.str [], .int 0 (.ofNat 5)]) .leaf 0) true) (allB fun r : R_print2 => iP (po_print2 p r) (K (.tup [.sy (.str r.t), .int 0 (.ofNat 0)]) .leaf 0) true))
def pre_print (p : A_print) : Prop := okO p.s.os ∧ p.s.gs.length ≤ 10 ∧ rgS p.s
theorem vf_print (p : A_print) (K : KE) (hpre : pre_print p) (hK : out_print p K = true) : (funE 0 (cfT nat_rhead) lp_print 600 ft_print (I_print p).1 (I_print p).2.1 (I_print p).2.2 K) = true := by
  refine Eq.trans (b := (useC (([.agg [.sy (.imm p.s.hg 3 GrR p.s.gs encG), .sy (.int 0 p.s.clients), .sy (.int 0 p.s.window), .sy (.int 0 p.s.deadline), .sy (.int 0 p.s.pace), .sy (.int 0 p.s.again), .sy (.int 0 p.s.bag), .sy (.int 4 p.s.first), .sy (.imm p.s.ho 9 OpR p.s.os encO)]], .leaf, 0)) I_bigRight pre_bigRight po_bigRight fun p1 r1 => iP (¬ r1.q) (K (.tup [.str [], .int 0 (.ofNat 1)]) .leaf 0) (useC (([.agg [.sy (.imm p.s.hg 3 GrR p.s.gs encG), .sy (.int 0 p.s.clients), .sy (.int 0 p.s.window), .sy (.int 0 p.s.deadline), .sy (.int 0 p.s.pace), .sy (.int 0 p.s.again), .sy (.int 0 p.s.bag), .sy (.int 4 p.s.first)]], .leaf, 0)) I_head pre_head po_head fun p2 r2 => mP (([] : List UInt8).length + r2.s.length ≤ 140737488355328) (exB fun p3 : A_l_pr => mP (((.cons 17 (.sy (.int 0 0)) (.cons 16 (.sy (.int 0 (p.s.os.length : Int))) (.cons 15 (.sy (.imm p.s.ho 9 OpR p.s.os encO)) (.cons 4 (.ptr 0 0) .nil)))), (.node (.node .leaf (some (.prow 5 1 UInt8 (([] : List UInt8) ++ r2.s) encU)) .leaf) (some (.blk false 56 2 [[.ptr 0 0, .sy (.prow 1 ((([] : List UInt8) ++ r2.s).length))]])) .leaf), 2) = I_l_pr p3) (mP (pre_l_pr p3) (must (allB fun r3 : R_l_pr => iP (po_l_pr p3 r3) (exB fun b1 : List UInt8 => mP (r3.c.map encU = b1.map encU) (mP (r3.c.length = b1.length) (mP (b1 ≠ []) (K (.tup [.sy (.str b1), .int 0 (.ofNat 0)]) .leaf 0)))) true) (iP (po_l_pr1 p3) (K (.tup [.str [], .int 0 (.ofNat 5)]) .leaf 0) true))))))) (by kernel_rfl) ?_
  obtain ⟨hK0, hKr0⟩ := must_ok hK
  obtain ⟨hK1, hKr1⟩ := must_ok hKr0
  have hK2 := hKr1
  dsimp only [pre_print] at hpre
  obtain ⟨u1, u2, u3⟩ := hpre
  refine callPR (⟨p.s⟩ : A_bigRight) rfl (by (try dsimp only [pre_bigRight]) ; first | exact ⟨u1, u2, u3⟩ | exact ⟨u1, u2⟩) fun r1 hi1 => ?_
  dsimp only [po_bigRight] at hi1
  refine iI (fun hc2 => ?_) (fun hc2 => ?_)
  exact ifB_use (show ¬ scR p.s from (by have e := (by assumption : _ ↔ scR _) ; first | (intro h ; have e2 := e.2 h ; contradiction) | simp_all)) hK0
  refine callPR (⟨p.s.hg, p.s.gs, p.s.clients, p.s.window, p.s.deadline, p.s.pace, p.s.again, p.s.bag, p.s.first⟩ : A_head) rfl (by (try dsimp only [pre_head]) ; exact head_pre ((by assumption : _ ↔ scR _).1 (by first | assumption | exact Classical.not_not.1 (by assumption))) u3) fun r2 hi3 => ?_
  dsimp only [po_head] at hi3
  refine mI (by (try simp only [List.length_append, List.length_map, List.length_cons, List.length_nil]) ; omega) ?_
  refine callP (⟨p.s.ho, p.s.os, ([] : List UInt8) ++ r2.s, (0 : Int)⟩ : A_l_pr) rfl (by (try dsimp only [pre_l_pr]) ; have hs := ((by assumption : _ ↔ scR _).1 (by first | assumption | exact Classical.not_not.1 (by assumption))) ; exact ⟨u1, by omega, by omega, ops_of hs, rgs_of u3, (by (try simp only [List.length_append, List.length_map, List.length_cons, List.length_nil]) ; omega), (by have e2 := hi3.1 ; simp only [List.nil_append] ; rw [e2] ; exact fun e => head_ne _ _ _ _ _ _ _ _ e.symm)⟩) ?_
  refine must_mk ?_ ?_
  refine allB_mk (fun r3 => ?_)
  refine iI (p := r3.c = (([] : List UInt8) ++ r2.s) ++ ((p.s.os.drop (0 : Int).toNat).map lineT).flatten ∧ r3.c.length ≤ 65536 ∧ r3.c ≠ []) (fun hi4 => ?_) (fun _ => rfl)
  refine exB_mk r3.c ?_
  refine mI (rfl) (mI (rfl) (mI (by (try dsimp only) ; exact hi4.2.2) ?_))
  exact ifB_use (show scR p.s ∧ r3.c = textT p.s ∧ r3.c.length ≤ 65536 from (by exact ⟨((by assumption : _ ↔ scR _).1 (by first | assumption | exact Classical.not_not.1 (by assumption))), (by have hh := (by assumption : _ = headT _ _ _ _ _ _ _ _ ∧ _) ; have e := hi4.1 ; simp only [Int.toNat_zero, List.drop_zero, List.nil_append] at e ; exact ⟨by unfold textT ; rw [← hh.1] ; exact e, hi4.2.1⟩)⟩)) (allB_ok hK2 (⟨r3.c⟩ : R_print2))
  refine iI (p := 65536 < ((([] : List UInt8) ++ r2.s) ++ ((p.s.os.drop (0 : Int).toNat).map lineT).flatten).length) (fun hi5 => ?_) (fun _ => rfl)
  exact ifB_use (show scR p.s ∧ 65536 < (textT p.s).length from (by exact ⟨((by assumption : _ ↔ scR _).1 (by first | assumption | exact Classical.not_not.1 (by assumption))), (by have hh := (by assumption : _ = headT _ _ _ _ _ _ _ _ ∧ _) ; have e := hi5 ; simp only [Int.toNat_zero, List.drop_zero, List.nil_append] at e ; unfold textT ; rw [← hh.1] ; exact e)⟩)) hK1
noncomputable def nat_print := natC nat_rhead 0 (esOf I_print (spP pre_print out_print)) 7 [(0, 15)]
theorem nat_print_ok : NatsOk Tryd.prog nat_print := natC_ok (natE_said (f := 7) (k := 0) (lp := lp_print) (lf := 600) ts_mix (cfT_ok nat_rhead_ok) ft_print_ok (by rfl) (fun b j x h => (mem_step lo_l_pr (fun h => (by cases h)) h)) fun p K h => vf_print p K (mustP_ok h).1 (mustP_ok h).2) nat_rhead_ok
def ft_rprint : XF := .mk 36 (.two 2 3) (.seq (g_ 3 [e_ 0 1 (.box 28 (.t 0)), p_ 1 2 (.mv (.c (.str []))), p_ 2 3 (.mv (i_ 0))]) (.seq (.seq (g_ 3 [r_ 0 6 (.ld true 9 (.t 1)), c_ 1 7 12 [.t 6], p_ 2 8 (.un 0 (.t 7))]) (.cond (.t 8) (.seq (g_ 2 [p_ 0 2 (.mv (.c (.str []))), p_ 1 3 (.mv (i_ 1))]) .ret) .skip)) (.seq (g_ 4 [p_ 0 9 (f_ 0 1), r_ 1 10 (.ld true 8 (.t 9)), c_ 2 11 24 [.t 10], p_ 3 4 (m_ 11)]) (.seq (.seq (g_ 1 [p_ 0 5 (.mv (i_ 0))]) (.block 2 (.pre [.can 0 [1, 4, 5], .up 4, .up 5, .can 0 [1, 4, 5]] (.inv 0 (.aft (.seq (.seq (g_ 10 [p_ 0 12 (m_ 5), p_ 1 13 (f_ 8 1), r_ 2 14 (l_ 13), p_ 3 15 (k_ 14), p_ 4 16 (.bin 3 0 (.t 12) (.t 15)), p_ 5 17 (m_ 16), pg_ 6 18 17 true (m_ 4), pg_ 7 19 17 true (.len 0 (.t 18)), pg_ 8 20 17 true (.bin 3 1 (.t 19) (i_ 65536)), p_ 9 21 (.pick (.t 17) (.t 20) (.c (.bool false)))]) (.cond (.t 21) .skip (.exit 2))) (.seq (.block 3 (g_ 9 [p_ 0 24 (m_ 4), p_ 1 25 (f_ 8 1), r_ 2 26 (l_ 25), p_ 3 27 (m_ 5), p_ 4 28 (.ixs 9 (.t 26) (.t 27)), r_ 5 29 (.ld true 9 (.t 28)), c_ 6 30 25 [.t 29], p_ 7 31 (.bin 4 0 (.t 24) (.t 30)), p_ 8 4 (m_ 31)])) (g_ 3 [p_ 0 22 (m_ 5), p_ 1 23 (.bin 0 0 (.t 22) (i_ 1)), p_ 2 5 (m_ 23)]))) [(0, [.can 0 [1, 4, 5]]), (2, [.can 0 [4]])]))))) (.seq (.seq (g_ 3 [p_ 0 32 (m_ 4), p_ 1 33 (.len 0 (.t 32)), p_ 2 34 (.bin 3 2 (.t 33) (i_ 65536))]) (.cond (.t 34) (.seq (g_ 2 [p_ 0 2 (.mv (.c (.str []))), p_ 1 3 (.mv (i_ 5))]) .ret) .skip)) (.seq (g_ 3 [p_ 0 35 (m_ 4), p_ 1 2 (m_ 35), p_ 2 3 (.mv (i_ 0))]) .ret))))))
theorem ft_rprint_ok : chkF Tryd.prog 9 ft_rprint = true := by kernel_rfl
structure A_l_rpr where
  s : ScR
  w : List UInt8
  i : Int
structure R_l_rpr where
  c : List UInt8
def po_l_rpr (p : A_l_rpr) (r : R_l_rpr) : Prop := r.c = p.w ++ ((p.s.os.drop p.i.toNat).map lineT).flatten ∨ (65536 < r.c.length ∧ 65536 < (p.w ++ ((p.s.os.drop p.i.toNat).map lineT).flatten).length)
noncomputable def I_l_rpr (p : A_l_rpr) : IL := ((.cons 5 (.sy (.int 0 p.i)) (.cons 4 (.sy (.str p.w)) (.cons 1 (.ptr 0 0) .nil))), (.node .leaf (some (.blk false 28 9 [[.sy (.imm p.s.hg 3 GrR p.s.gs encG), .sy (.int 0 p.s.clients), .sy (.int 0 p.s.window), .sy (.int 0 p.s.deadline), .sy (.int 0 p.s.pace), .sy (.int 0 p.s.again), .sy (.int 0 p.s.bag), .sy (.int 4 p.s.first), .sy (.imm p.s.ho 9 OpR p.s.os encO)]])) .leaf), 1)
noncomputable def out_l_rpr (p : A_l_rpr) (K : KC) : Bool := allB fun r : R_l_rpr => iP (po_l_rpr p r) (K 2 (.cons 4 (.sy (.str r.c)) .nil) .leaf 0) true
def pre_l_rpr (p : A_l_rpr) : Prop := okO p.s.os ∧ 0 ≤ p.i ∧ p.i ≤ (p.s.os.length : Int) ∧ (∀ o ∈ p.s.os, opR o) ∧ (∀ o ∈ p.s.os, rgO o)
theorem fin_l_rpr {p : A_l_rpr} {K : KC} (hK : out_l_rpr p K = true) (r : R_l_rpr) (h : po_l_rpr p r) : K 2 (.cons 4 (.sy (.str r.c)) .nil) .leaf 0 = true := ifB_use h (allB_ok hK r)
noncomputable def sp_l_rpr (p : A_l_rpr) (K : KC) : Bool := must (prB (pre_l_rpr p)) (out_l_rpr p K)
noncomputable def lp_rprint : LpF := fun j S M nx K => (Bool.rec (false) (exB fun p : A_l_rpr => must (prB ((S, M, nx) = I_l_rpr p)) (sp_l_rpr p K)) (Nat.beq j 0))
def mu_l_rpr (p : A_l_rpr) : Nat := ((p.s.os.length : Int) - p.i).toNat
theorem bk_l_rpr {p q : A_l_rpr} {K : KC} {s : IL} (hm : mu_l_rpr q < mu_l_rpr p) (hp : pre_l_rpr q) (hK : out_l_rpr q K = true) (e : s = I_l_rpr q) : (exB fun q => mP (s = I_l_rpr q ∧ mu_l_rpr q < mu_l_rpr p) (sp_l_rpr q K)) = true := exB_mk q (mustP ⟨e, hm⟩ (mustP hp hK))
def bd_l_rpr : XC := (.aft (.seq (.seq (g_ 10 [p_ 0 12 (m_ 5), p_ 1 13 (f_ 8 1), r_ 2 14 (l_ 13), p_ 3 15 (k_ 14), p_ 4 16 (.bin 3 0 (.t 12) (.t 15)), p_ 5 17 (m_ 16), pg_ 6 18 17 true (m_ 4), pg_ 7 19 17 true (.len 0 (.t 18)), pg_ 8 20 17 true (.bin 3 1 (.t 19) (i_ 65536)), p_ 9 21 (.pick (.t 17) (.t 20) (.c (.bool false)))]) (.cond (.t 21) .skip (.exit 2))) (.seq (.block 3 (g_ 9 [p_ 0 24 (m_ 4), p_ 1 25 (f_ 8 1), r_ 2 26 (l_ 25), p_ 3 27 (m_ 5), p_ 4 28 (.ixs 9 (.t 26) (.t 27)), r_ 5 29 (.ld true 9 (.t 28)), c_ 6 30 25 [.t 29], p_ 7 31 (.bin 4 0 (.t 24) (.t 30)), p_ 8 4 (m_ 31)])) (g_ 3 [p_ 0 22 (m_ 5), p_ 1 23 (.bin 0 0 (.t 22) (i_ 1)), p_ 2 5 (m_ 23)]))) [(0, [.can 0 [1, 4, 5]]), (2, [.can 0 [4]])])
theorem vb_l_rpr (p : A_l_rpr) (K : KC) (hpre : pre_l_rpr p) (hK : out_l_rpr p K = true) : (codeX (cfT nat_print) lp_rprint 600 bd_l_rpr (I_l_rpr p).1 (I_l_rpr p).2.1 (I_l_rpr p).2.2 (fun e S M nx => Nat.casesOn e (exB fun q : A_l_rpr => must (prB ((S, M, nx) = I_l_rpr q ∧ mu_l_rpr q < mu_l_rpr p)) (sp_l_rpr q K)) (fun e2 => K (Nat.succ e2) S M nx))) = true := by
  refine Eq.trans (b := (iP (p.i < (p.s.os.length : Int)) (iP ((p.w.length : Int) ≤ (65536 : Int)) (mP (0 ≤ p.i ∧ p.i < (p.s.os.length : Int)) (allB fun x1 : OpR => iP (p.s.os[p.i.toNat]? = some x1) (useC (([.agg [.sy (.int 0 x1.kind), .sy (.int 0 x1.x), .sy (.int 0 x1.y), .sy (.int 0 x1.i), .sy (.int 0 x1.at_), .sy (.int 0 x1.mode), .sy (.int 3 x1.mask), .sy (.int 1 x1.grp), .sy (.imm x1.hp 5 PtR x1.ps encP)]], .leaf, 0)) I_rline pre_rline po_rline fun p1 r1 => mP (p.w.length + r1.s.length ≤ 9223372036854775807) (mP (InR 0 (p.i + (1 : Int))) (exB fun q1 : A_l_rpr => mP (((.cons 5 (.sy (.int 0 (p.i + (1 : Int)))) (.cons 4 (.sy (.str (p.w ++ r1.s))) (.cons 1 (.ptr 0 0) .nil))), (.node .leaf (some (.blk false 28 9 [[.sy (.imm p.s.hg 3 GrR p.s.gs encG), .sy (.int 0 p.s.clients), .sy (.int 0 p.s.window), .sy (.int 0 p.s.deadline), .sy (.int 0 p.s.pace), .sy (.int 0 p.s.again), .sy (.int 0 p.s.bag), .sy (.int 4 p.s.first), .sy (.imm p.s.ho 9 OpR p.s.os encO)]])) .leaf), 1) = I_l_rpr q1 ∧ mu_l_rpr q1 < mu_l_rpr p) (sp_l_rpr q1 K)))) true)) (K 2 (.cons 4 (.sy (.str p.w)) .nil) .leaf 0)) (K 2 (.cons 4 (.sy (.str p.w)) .nil) .leaf 0))) (by kernel_rfl) ?_
  dsimp only [pre_l_rpr] at hpre
  obtain ⟨g0, g1, g2, g3, g4⟩ := hpre
  have g9 := g0.1
  refine iI (fun hc1 => ?_) (fun hc1 => ?_)
  refine iI (fun hc2 => ?_) (fun hc2 => ?_)
  refine mI (by first | omega | (constructor <;> omega)) ?_
  refine allB_mk (fun x1 => ?_)
  refine iI (fun hi3 => ?_) (fun _ => rfl)
  have hg_x1 := g3 _ (List.mem_of_getElem? (by assumption : p.s.os[p.i.toNat]? = some x1))
  have hr_x1 := g4 _ (List.mem_of_getElem? (by assumption : p.s.os[p.i.toNat]? = some x1))
  have hm_x1 := g0.2 _ x1 (by assumption)
  refine callPR (⟨x1⟩ : A_rline) rfl (by (try dsimp only [pre_rline]) ; exact ⟨by assumption, by assumption, by assumption⟩) fun r1 hi4 => ?_
  dsimp only [po_rline] at hi4
  refine mI (by (try simp only [List.length_append, List.length_map, List.length_cons, List.length_nil]) ; omega) (mI (by simp only [InR] ; omega) ?_)
  exact bk_l_rpr (q := ⟨p.s, p.w ++ r1.s, p.i + (1 : Int)⟩) (by dsimp only [mu_l_rpr] ; omega) (by dsimp only [pre_l_rpr] ; exact ⟨g0, by omega, by omega, g3, g4⟩) (out_weak hK fun r hz => by have e := tl_eq (w := p.w) g1 (by assumption) hi4.1 ; have hz2 := hz ; dsimp only [po_l_rpr] at hz2 ⊢ ; rw [e] at hz2 ; exact hz2) rfl
  exact fin_l_rpr hK ⟨p.w⟩ (by dsimp only [po_l_rpr] <;> (first | exact .inl (by rw [drop_out (by omega)] ; simp) | exact .inr (by rw [List.length_append] ; omega)))
  exact fin_l_rpr hK ⟨p.w⟩ (by dsimp only [po_l_rpr] <;> (first | exact .inl (by rw [drop_out (by omega)] ; simp) | exact .inr (by rw [List.length_append] ; omega)))
theorem lo_l_rpr : LpOk Tryd.prog 36 0 lp_rprint true 0 bd_l_rpr := by
  exact lp_of (lf := 600) ts_mix (cfT_ok nat_print_ok) (by rfl) I_l_rpr mu_l_rpr sp_l_rpr (fun b j x h => by cases h) (fun S M nx K h => by obtain ⟨p, h⟩ := exB_ok h; exact ⟨p, (mustP_ok h).1, (mustP_ok h).2⟩) (fun p K h => vb_l_rpr p K (mustP_ok h).1 (mustP_ok h).2)
structure A_rprint where
  s : ScR
structure R_rprint2 where
  t : List UInt8
def po_rprint (p : A_rprint) : Prop := ¬ scR p.s
def po_rprint1 (p : A_rprint) : Prop := scR p.s ∧ 65536 < (textT p.s).length
def po_rprint2 (p : A_rprint) (r : R_rprint2) : Prop := scR p.s ∧ r.t = textT p.s ∧ r.t.length ≤ 65536
noncomputable def I_rprint (p : A_rprint) : IE := ([.agg [.sy (.imm p.s.hg 3 GrR p.s.gs encG), .sy (.int 0 p.s.clients), .sy (.int 0 p.s.window), .sy (.int 0 p.s.deadline), .sy (.int 0 p.s.pace), .sy (.int 0 p.s.again), .sy (.int 0 p.s.bag), .sy (.int 4 p.s.first), .sy (.imm p.s.ho 9 OpR p.s.os encO)]], .leaf, 0)
noncomputable def out_rprint (p : A_rprint) (K : KE) : Bool := must (iP (po_rprint p) (K (.tup [.str [], .int 0 (.ofNat 1)]) .leaf 0) true) (must (iP (po_rprint1 p) (K (.tup [.str [], .int 0 (.ofNat 5)]) .leaf 0) true) (allB fun r : R_rprint2 => iP (po_rprint2 p r) (K (.tup [.sy (.str r.t), .int 0 (.ofNat 0)]) .leaf 0) true))
def pre_rprint (p : A_rprint) : Prop := okO p.s.os ∧ p.s.gs.length ≤ 10 ∧ rgS p.s
theorem vf_rprint (p : A_rprint) (K : KE) (hpre : pre_rprint p) (hK : out_rprint p K = true) : (funE 0 (cfT nat_print) lp_rprint 600 ft_rprint (I_rprint p).1 (I_rprint p).2.1 (I_rprint p).2.2 K) = true := by
  refine Eq.trans (b := (useC (([.agg [.sy (.imm p.s.hg 3 GrR p.s.gs encG), .sy (.int 0 p.s.clients), .sy (.int 0 p.s.window), .sy (.int 0 p.s.deadline), .sy (.int 0 p.s.pace), .sy (.int 0 p.s.again), .sy (.int 0 p.s.bag), .sy (.int 4 p.s.first), .sy (.imm p.s.ho 9 OpR p.s.os encO)]], .leaf, 0)) I_rRight pre_rRight po_rRight fun p1 r1 => iP (¬ r1.q) (K (.tup [.str [], .int 0 (.ofNat 1)]) .leaf 0) (useC (([.agg [.sy (.imm p.s.hg 3 GrR p.s.gs encG), .sy (.int 0 p.s.clients), .sy (.int 0 p.s.window), .sy (.int 0 p.s.deadline), .sy (.int 0 p.s.pace), .sy (.int 0 p.s.again), .sy (.int 0 p.s.bag), .sy (.int 4 p.s.first)]], .leaf, 0)) I_rhead pre_rhead po_rhead fun p2 r2 => useC (((.cons 5 (.sy (.int 0 0)) (.cons 4 (.sy (.str r2.s)) (.cons 1 (.ptr 0 0) .nil))), (.node .leaf (some (.blk false 28 9 [[.sy (.imm p.s.hg 3 GrR p.s.gs encG), .sy (.int 0 p.s.clients), .sy (.int 0 p.s.window), .sy (.int 0 p.s.deadline), .sy (.int 0 p.s.pace), .sy (.int 0 p.s.again), .sy (.int 0 p.s.bag), .sy (.int 4 p.s.first), .sy (.imm p.s.ho 9 OpR p.s.os encO)]])) .leaf), 1)) I_l_rpr pre_l_rpr po_l_rpr fun p3 r3 => iP ((65536 : Int) < (r3.c.length : Int)) (K (.tup [.str [], .int 0 (.ofNat 5)]) .leaf 0) (K (.tup [.sy (.str r3.c), .int 0 (.ofNat 0)]) .leaf 0)))) (by kernel_rfl) ?_
  obtain ⟨hK0, hKr0⟩ := must_ok hK
  obtain ⟨hK1, hKr1⟩ := must_ok hKr0
  have hK2 := hKr1
  dsimp only [pre_rprint] at hpre
  obtain ⟨u1, u2, u3⟩ := hpre
  refine callPR (⟨p.s⟩ : A_rRight) rfl (by (try dsimp only [pre_rRight]) ; first | exact ⟨u1, u2, u3⟩ | exact ⟨u1, u2⟩) fun r1 hi1 => ?_
  dsimp only [po_rRight] at hi1
  refine iI (fun hc2 => ?_) (fun hc2 => ?_)
  exact ifB_use (show ¬ scR p.s from (by have e := (by assumption : _ ↔ scR _) ; first | (intro h ; have e2 := e.2 h ; contradiction) | simp_all)) hK0
  refine callPR (⟨p.s.hg, p.s.gs, p.s.clients, p.s.window, p.s.deadline, p.s.pace, p.s.again, p.s.bag, p.s.first⟩ : A_rhead) rfl (by (try dsimp only [pre_rhead]) ; exact head_pre ((by assumption : _ ↔ scR _).1 (by first | assumption | exact Classical.not_not.1 (by assumption))) u3) fun r2 hi3 => ?_
  dsimp only [po_rhead] at hi3
  refine callPR (⟨p.s, r2.s, (0 : Int)⟩ : A_l_rpr) rfl (by (try dsimp only [pre_l_rpr]) ; have hs := ((by assumption : _ ↔ scR _).1 (by first | assumption | exact Classical.not_not.1 (by assumption))) ; exact ⟨u1, by omega, by omega, ops_of hs, rgs_of u3⟩) fun r3 hi4 => ?_
  dsimp only [po_l_rpr] at hi4
  refine iI (fun hc5 => ?_) (fun hc5 => ?_)
  exact ifB_use (show scR p.s ∧ 65536 < (textT p.s).length from (by exact ⟨((by assumption : _ ↔ scR _).1 (by first | assumption | exact Classical.not_not.1 (by assumption))), (by have hh := (by assumption : _ = headT _ _ _ _ _ _ _ _ ∧ _) ; have e := hi4 ; simp only [Int.toNat_zero, List.drop_zero] at e ; unfold textT ; rw [← hh.1] ; rcases e with e | e ; rw [← e] ; omega ; exact e.2)⟩)) hK1
  exact ifB_use (show scR p.s ∧ r3.c = textT p.s ∧ r3.c.length ≤ 65536 from (by exact ⟨((by assumption : _ ↔ scR _).1 (by first | assumption | exact Classical.not_not.1 (by assumption))), (by have hh := (by assumption : _ = headT _ _ _ _ _ _ _ _ ∧ _) ; have e := hi4 ; simp only [Int.toNat_zero, List.drop_zero] at e ; unfold textT ; rw [← hh.1] ; rcases e with e | e ; exact ⟨e, by omega⟩ ; exfalso ; omega)⟩)) (allB_ok hK2 (⟨r3.c⟩ : R_rprint2))
noncomputable def nat_rprint := natC nat_print 0 (esOf I_rprint (spP pre_rprint out_rprint)) 9 [(0, 15)]
theorem nat_rprint_ok : NatsOk Tryd.prog nat_rprint := natC_ok (natE_said (f := 9) (k := 0) (lp := lp_rprint) (lf := 600) ts_mix (cfT_ok nat_print_ok) ft_rprint_ok (by rfl) (fun b j x h => (mem_step lo_l_rpr (fun h => (by cases h)) h)) fun p K h => vf_rprint p K (mustP_ok h).1 (mustP_ok h).2) nat_print_ok
def ofk (k : (Int × Int × Int × Int × Int × Int) × Int × Int × List PtR) : OpR := ⟨k.1.1, k.1.2.1, k.1.2.2.1, k.1.2.2.2.1, k.1.2.2.2.2.1, k.1.2.2.2.2.2, k.2.1, k.2.2.1, .bool true, k.2.2.2⟩
theorem all_via {R : OpR → Prop} (hR : ∀ o, R (ofk (opk o)) ↔ R o) {l m : List OpR} (e : l.map opk = m.map opk) : (∀ o ∈ l, R o) ↔ ∀ o ∈ m, R o := by
  have h : ∀ l : List OpR, (∀ o ∈ l, R o) ↔ ∀ k ∈ l.map opk, R (ofk k) := fun l => by
    rw [List.forall_mem_map]
    exact ⟨fun q o ho => (hR o).2 (q o ho), fun q o ho => (hR o).1 (q o ho)⟩
  rw [h l, h m, e]
theorem map_via {l m : List OpR} (e : l.map opk = m.map opk) : l.map lineT = m.map lineT := by
  have h : ∀ l : List OpR, l.map lineT = (l.map opk).map (fun k => lineT (ofk k)) := fun l => by
    rw [List.map_map]; rfl
  rw [h l, h m, e]
theorem scR_via {t a : ScR} (e : sck t = sck a) : scR t ↔ scR a := by
  obtain ⟨hg, gs, c1, c2, c3, c4, c5, c6, f, ho, os⟩ := t
  obtain ⟨hg', gs', d1, d2, d3, d4, d5, d6, f', ho', os'⟩ := a
  simp only [sck, Prod.mk.injEq] at e
  obtain ⟨rfl, ⟨rfl, rfl, rfl, rfl, rfl, rfl⟩, rfl, e⟩ := e
  simp only [scR]
  rw [all_via (fun _ => Iff.rfl) e]
theorem rgS_via {t a : ScR} (e : sck t = sck a) : rgS t ↔ rgS a := by
  obtain ⟨hg, gs, c1, c2, c3, c4, c5, c6, f, ho, os⟩ := t
  obtain ⟨hg', gs', d1, d2, d3, d4, d5, d6, f', ho', os'⟩ := a
  simp only [sck, Prod.mk.injEq] at e
  obtain ⟨rfl, ⟨rfl, rfl, rfl, rfl, rfl, rfl⟩, rfl, e⟩ := e
  simp only [rgS]
  rw [all_via (fun _ => Iff.rfl) e]
theorem textT_via {t a : ScR} (e : sck t = sck a) : textT t = textT a := by
  obtain ⟨hg, gs, c1, c2, c3, c4, c5, c6, f, ho, os⟩ := t
  obtain ⟨hg', gs', d1, d2, d3, d4, d5, d6, f', ho', os'⟩ := a
  simp only [sck, Prod.mk.injEq] at e
  obtain ⟨rfl, ⟨rfl, rfl, rfl, rfl, rfl, rfl⟩, rfl, e⟩ := e
  simp only [textT]
  rw [map_via e]
theorem pr_via {t a : ScR} {q : Prop} (e : sck t = sck a) (h : q → okO a.os) (hq : q) (h2 : a.gs.length ≤ 10) (h3 : rgS a) : okO t.os ∧ t.gs.length ≤ 10 ∧ rgS t := ⟨okO_via e h hq, gs_via e h2, (rgS_via e).2 h3⟩
theorem dA {t a : ScR} {X : Prop} (e : sck t = sck a) (h1 : ¬ scR t) (h2 : scR a ∧ X) : False := h1 ((scR_via e).2 h2.1)
theorem dB {t a : ScR} {X : Prop} (e : sck t = sck a) (h1 : ¬ scR a) (h2 : scR t ∧ X) : False := h1 ((scR_via e).1 h2.1)
theorem dC {t a : ScR} {r : List UInt8} (e : sck t = sck a) (h1 : scR t ∧ 65536 < (textT t).length) (h2 : scR a ∧ r = textT a ∧ r.length ≤ 65536) : False := by
  rw [textT_via e, ← h2.2.1] at h1
  omega
theorem dD {t a : ScR} {r : List UInt8} (e : sck t = sck a) (h1 : scR a ∧ 65536 < (textT a).length) (h2 : scR t ∧ r = textT t ∧ r.length ≤ 65536) : False := by
  rw [← textT_via e, ← h2.2.1] at h1
  omega
theorem dE {t a : ScR} {r s : List UInt8} {X Y : Prop} (e : sck t = sck a) (h1 : scR t ∧ r = textT t ∧ X) (h2 : scR a ∧ s = textT a ∧ Y) (n : ¬ r = s) : False := n (h1.2.1.trans ((textT_via e).trans h2.2.1.symm))
theorem dF {t a : ScR} {q r : Prop} (e : sck t = sck a) (h2 : r ↔ scR a) (n : ¬ q) (y : r) (h1 : q ↔ scR t) : False := n (h1.2 ((scR_via e).2 (h2.1 y)))
theorem dG {t a : ScR} {q r : Prop} (e : sck t = sck a) (h2 : r ↔ scR a) (n : ¬ r) (h1 : q ↔ scR t) (y : q) : False := n (h2.2 ((scR_via e).1 (h1.1 y)))
theorem dH {t a : ScR} {q r : Prop} (e : sck t = sck a) (h2 : r ↔ scR a) (h1 : q ↔ scR t) (n : ¬ (q ↔ r)) : False := n (h1.trans ((scR_via e).trans h2.symm))
theorem wf_i64 {z : Int} (h : (Lit.int .i64 z).wf = true) : I64r z := by
  simp [Lit.wf, IntKind.min, IntKind.max, IntKind.signed, IntKind.bits] at h
  unfold I64r
  omega
theorem wf_u8 {z : Int} (h : (Lit.int .u8 z).wf = true) : 0 ≤ z ∧ z ≤ 255 := by
  simp [Lit.wf, IntKind.min, IntKind.max, IntKind.signed, IntKind.bits] at h
  omega
theorem wf_u32 {z : Int} (h : (Lit.int .u32 z).wf = true) : 0 ≤ z ∧ z ≤ 4294967295 := by
  simp [Lit.wf, IntKind.min, IntKind.max, IntKind.signed, IntKind.bits] at h
  omega
theorem wf_u64 {z : Int} (h : (Lit.int .u64 z).wf = true) : 0 ≤ z ∧ z ≤ 18446744073709551615 := by
  simp [Lit.wf, IntKind.min, IntKind.max, IntKind.signed, IntKind.bits] at h
  omega
theorem rg_P {z0 z1 z4 : Int} {k v : List UInt8} (h0 : (Lit.int .u8 z0).wf = true) (h1 : (Lit.int .u8 z1).wf = true) (h4 : (Lit.int .i64 z4).wf = true) : rgP ⟨z0, z1, k, v, z4⟩ := ⟨wf_u8 h0, wf_u8 h1, wf_i64 h4⟩
theorem rg_G {z0 z1 : Int} {c : Prop} (h0 : (Lit.int .i64 z0).wf = true) (h1 : (Lit.int .i64 z1).wf = true) : rgG ⟨z0, z1, c⟩ := ⟨wf_i64 h0, wf_i64 h1⟩
theorem rg_O {z0 z1 z2 z3 z4 z5 z6 z7 : Int} {h : Value} {l : List PtR} (h0 : (Lit.int .i64 z0).wf = true) (h1 : (Lit.int .i64 z1).wf = true) (h2 : (Lit.int .i64 z2).wf = true) (h3 : (Lit.int .i64 z3).wf = true) (h4 : (Lit.int .i64 z4).wf = true) (h5 : (Lit.int .i64 z5).wf = true) (h6 : (Lit.int .u32 z6).wf = true) (h7 : (Lit.int .u8 z7).wf = true) (h8 : ∀ x ∈ l, rgP x) : rgO ⟨z0, z1, z2, z3, z4, z5, z6, z7, h, l⟩ := ⟨⟨wf_i64 h0, wf_i64 h1, wf_i64 h2, wf_i64 h3, wf_i64 h4, wf_i64 h5⟩, wf_u32 h6, wf_u8 h7, h8⟩
theorem rg_S {z1 z2 z3 z4 z5 z6 z7 : Int} {h h' : Value} {g : List GrR} {l : List OpR} (h1 : (Lit.int .i64 z1).wf = true) (h2 : (Lit.int .i64 z2).wf = true) (h3 : (Lit.int .i64 z3).wf = true) (h4 : (Lit.int .i64 z4).wf = true) (h5 : (Lit.int .i64 z5).wf = true) (h6 : (Lit.int .i64 z6).wf = true) (h7 : (Lit.int .u64 z7).wf = true) (hg : ∀ x ∈ g, rgG x) (ho : ∀ x ∈ l, rgO x) : rgS ⟨h, g, z1, z2, z3, z4, z5, z6, z7, h', l⟩ := ⟨hg, ⟨wf_i64 h1, wf_i64 h2, wf_i64 h3, wf_i64 h4, wf_i64 h5, wf_i64 h6⟩, wf_u64 h7, ho⟩
def ft_scriptPrints : XF := .mk 42 (.one 2) (.seq (g_ 2 [e_ 0 1 (.box 28 (.t 0)), p_ 1 2 (.mv (.c (.bool false)))]) (.seq (.seq (g_ 3 [r_ 0 7 (.ld true 9 (.t 1)), c_ 1 8 5 [.t 7], p_ 2 9 (.un 0 (.t 8))]) (.cond (.t 9) (.seq (g_ 2 [c_ 0 10 6 [], p_ 1 2 (m_ 10)]) .ret) .skip)) (.seq (g_ 8 [r_ 0 12 (.ld true 9 (.t 1)), c_ 1 13 8 [.t 12], c_ 2 14 7 [.t 13], p_ 3 11 (m_ 14), p_ 4 15 (.ext 0 (.t 11)), p_ 5 16 (.ext 1 (.t 11)), p_ 6 3 (m_ 15), p_ 7 4 (m_ 16)]) (.seq (g_ 7 [r_ 0 18 (.ld true 9 (.t 1)), c_ 1 19 9 [.t 18], p_ 2 17 (m_ 19), p_ 3 20 (.ext 0 (.t 17)), p_ 4 21 (.ext 1 (.t 17)), p_ 5 5 (m_ 20), p_ 6 6 (m_ 21)]) (.seq (h_ 21 [p_ 0 22 (m_ 3), p_ 1 23 (m_ 5), p_ 2 24 (.bin 5 0 (.t 22) (.t 23)), p_ 3 25 (m_ 24), pg_ 4 26 25 true (m_ 4), pg_ 6 28 25 true (m_ 6), cg_ 5 27 25 true 10 [.t 26], pg_ 7 29 25 true (.bin 3 4 (.t 27) (.t 28)), p_ 8 30 (.pick (.t 25) (.t 29) (.c (.bool false))), p_ 9 31 (m_ 30), rg_ 10 32 31 true (.ld true 9 (.t 1)), rg_ 13 35 31 true (.ld true 9 (.t 1)), cg_ 11 33 31 true 8 [.t 32], ag_ 13 35 31 true (.ld true 9 (.t 1)), cg_ 12 34 31 true 11 [.t 33], ag_ 13 35 31 true (.ld true 9 (.t 1)), cg_ 14 36 31 true 12 [.t 35], pg_ 15 37 31 true (.eqs false 1 .bool (.t 34) (.t 36)), p_ 16 38 (.pick (.t 31) (.t 37) (.c (.bool false))), p_ 17 39 (m_ 38), cg_ 18 40 39 true 6 [], p_ 19 41 (.pick (.t 39) (.t 40) (.c (.bool false))), p_ 20 2 (m_ 41)]) .ret)))))
theorem ft_scriptPrints_ok : chkF Tryd.prog 3 ft_scriptPrints = true := by kernel_rfl
structure A_scriptPrints where
  a : ScR
noncomputable def I_scriptPrints (p : A_scriptPrints) : IE := ([.agg [.sy (.imm p.a.hg 3 GrR p.a.gs encG), .sy (.int 0 p.a.clients), .sy (.int 0 p.a.window), .sy (.int 0 p.a.deadline), .sy (.int 0 p.a.pace), .sy (.int 0 p.a.again), .sy (.int 0 p.a.bag), .sy (.int 4 p.a.first), .sy (.imm p.a.ho 9 OpR p.a.os encO)]], .leaf, 0)
noncomputable def out_scriptPrints (p : A_scriptPrints) (K : KE) : Bool := K (.bool true) .leaf 0
def pre_scriptPrints (p : A_scriptPrints) : Prop := rgS p.a
theorem vf_scriptPrints (p : A_scriptPrints) (K : KE) (hpre : pre_scriptPrints p) (hK : out_scriptPrints p K = true) : (funE 0 (cfT nat_rprint) noLp 600 ft_scriptPrints (I_scriptPrints p).1 (I_scriptPrints p).2.1 (I_scriptPrints p).2.2 K) = true := by
  refine Eq.trans (b := (let z0 : Bool := (K (.bool false) .leaf 0); let z1 : Bool := (K (.bool true) .leaf 0); exB fun p1 : A_li24 => mP (([.sy (.imm p.a.ho 9 OpR p.a.os encO), .int 0 (.ofNat 60)], .leaf, 0) = I_li24 p1) (allB fun r1 : R_li24 => iP (po_li24 p1 r1) (iP (r1.q) (iP (¬ ((p.a.gs.length : Int) ≤ (10 : Int))) (exB fun p2 : A_knows => mP (([], .leaf, 0) = I_knows p2) z1) (useC (([.agg [.sy (.imm p.a.hg 3 GrR p.a.gs encG), .sy (.int 0 p.a.clients), .sy (.int 0 p.a.window), .sy (.int 0 p.a.deadline), .sy (.int 0 p.a.pace), .sy (.int 0 p.a.again), .sy (.int 0 p.a.bag), .sy (.int 4 p.a.first), .sy (.imm p.a.ho 9 OpR p.a.os encO)]], .leaf, 0)) I_own pre_own po_own fun p3 r2 => exB fun p4 : A_print => mP (([.agg [.sy (.imm r2.t.hg 3 GrR r2.t.gs encG), .sy (.int 0 r2.t.clients), .sy (.int 0 r2.t.window), .sy (.int 0 r2.t.deadline), .sy (.int 0 r2.t.pace), .sy (.int 0 r2.t.again), .sy (.int 0 r2.t.bag), .sy (.int 4 r2.t.first), .sy (.imm r2.t.ho 9 OpR r2.t.os encO)]], .leaf, 0) = I_print p4) (mP (pre_print p4) (must (iP (po_print p4) (exB fun p17 : A_rprint => mP (([.agg [.sy (.imm p.a.hg 3 GrR p.a.gs encG), .sy (.int 0 p.a.clients), .sy (.int 0 p.a.window), .sy (.int 0 p.a.deadline), .sy (.int 0 p.a.pace), .sy (.int 0 p.a.again), .sy (.int 0 p.a.bag), .sy (.int 4 p.a.first), .sy (.imm p.a.ho 9 OpR p.a.os encO)]], .leaf, 0) = I_rprint p17) (mP (pre_rprint p17) (must (iP (po_rprint p17) (useC (([.agg [.sy (.imm p.a.hg 3 GrR p.a.gs encG), .sy (.int 0 p.a.clients), .sy (.int 0 p.a.window), .sy (.int 0 p.a.deadline), .sy (.int 0 p.a.pace), .sy (.int 0 p.a.again), .sy (.int 0 p.a.bag), .sy (.int 4 p.a.first), .sy (.imm p.a.ho 9 OpR p.a.os encO)]], .leaf, 0)) I_own pre_own po_own fun p18 r13 => must (Bool.and (prB (((.imm p.a.hg 3 GrR p.a.gs encG) : SY) = (.imm p.a.hg 3 GrR p.a.gs encG))) (Bool.and (prB (((.int 0 p.a.clients) : SY) = (.int 0 p.a.clients))) (Bool.and (prB (((.int 0 p.a.window) : SY) = (.int 0 p.a.window))) (Bool.and (prB (((.int 0 p.a.deadline) : SY) = (.int 0 p.a.deadline))) (Bool.and (prB (((.int 0 p.a.pace) : SY) = (.int 0 p.a.pace))) (Bool.and (prB (((.int 0 p.a.again) : SY) = (.int 0 p.a.again))) (Bool.and (prB (((.int 0 p.a.bag) : SY) = (.int 0 p.a.bag))) (Bool.and (prB (((.int 4 p.a.first) : SY) = (.int 4 p.a.first))) (Bool.and (prB (((.imm p.a.ho 9 OpR p.a.os encO) : SY) = (.imm p.a.ho 9 OpR p.a.os encO))) (true)))))))))) (useC (([.agg [.sy (.imm r13.t.hg 3 GrR r13.t.gs encG), .sy (.int 0 r13.t.clients), .sy (.int 0 r13.t.window), .sy (.int 0 r13.t.deadline), .sy (.int 0 r13.t.pace), .sy (.int 0 r13.t.again), .sy (.int 0 r13.t.bag), .sy (.int 4 r13.t.first), .sy (.imm r13.t.ho 9 OpR r13.t.os encO)]], .leaf, 0)) I_bigRight pre_bigRight po_bigRight fun p19 r14 => must (Bool.and (prB (((.imm p.a.hg 3 GrR p.a.gs encG) : SY) = (.imm p.a.hg 3 GrR p.a.gs encG))) (Bool.and (prB (((.int 0 p.a.clients) : SY) = (.int 0 p.a.clients))) (Bool.and (prB (((.int 0 p.a.window) : SY) = (.int 0 p.a.window))) (Bool.and (prB (((.int 0 p.a.deadline) : SY) = (.int 0 p.a.deadline))) (Bool.and (prB (((.int 0 p.a.pace) : SY) = (.int 0 p.a.pace))) (Bool.and (prB (((.int 0 p.a.again) : SY) = (.int 0 p.a.again))) (Bool.and (prB (((.int 0 p.a.bag) : SY) = (.int 0 p.a.bag))) (Bool.and (prB (((.int 4 p.a.first) : SY) = (.int 4 p.a.first))) (Bool.and (prB (((.imm p.a.ho 9 OpR p.a.os encO) : SY) = (.imm p.a.ho 9 OpR p.a.os encO))) (true)))))))))) (useC (([.agg [.sy (.imm p.a.hg 3 GrR p.a.gs encG), .sy (.int 0 p.a.clients), .sy (.int 0 p.a.window), .sy (.int 0 p.a.deadline), .sy (.int 0 p.a.pace), .sy (.int 0 p.a.again), .sy (.int 0 p.a.bag), .sy (.int 4 p.a.first), .sy (.imm p.a.ho 9 OpR p.a.os encO)]], .leaf, 0)) I_rRight pre_rRight po_rRight fun p20 r15 => iP (r14.q) (iP (r15.q) (exB fun p21 : A_knows => mP (([], .leaf, 0) = I_knows p21) z1) z0) (iP (r15.q) z0 (exB fun p22 : A_knows => mP (([], .leaf, 0) = I_knows p22) z1))))) true) (must (iP (po_rprint1 p17) z0 true) (allB fun r12 : R_rprint2 => iP (po_rprint2 p17 r12) (iP ((([] : List Nat).map UInt8.ofNat) = r12.t) z0 z0) true))))) true) (must (iP (po_print1 p4) (exB fun p11 : A_rprint => mP (([.agg [.sy (.imm p.a.hg 3 GrR p.a.gs encG), .sy (.int 0 p.a.clients), .sy (.int 0 p.a.window), .sy (.int 0 p.a.deadline), .sy (.int 0 p.a.pace), .sy (.int 0 p.a.again), .sy (.int 0 p.a.bag), .sy (.int 4 p.a.first), .sy (.imm p.a.ho 9 OpR p.a.os encO)]], .leaf, 0) = I_rprint p11) (mP (pre_rprint p11) (must (iP (po_rprint p11) z0 true) (must (iP (po_rprint1 p11) (useC (([.agg [.sy (.imm p.a.hg 3 GrR p.a.gs encG), .sy (.int 0 p.a.clients), .sy (.int 0 p.a.window), .sy (.int 0 p.a.deadline), .sy (.int 0 p.a.pace), .sy (.int 0 p.a.again), .sy (.int 0 p.a.bag), .sy (.int 4 p.a.first), .sy (.imm p.a.ho 9 OpR p.a.os encO)]], .leaf, 0)) I_own pre_own po_own fun p12 r9 => must (Bool.and (prB (((.imm p.a.hg 3 GrR p.a.gs encG) : SY) = (.imm p.a.hg 3 GrR p.a.gs encG))) (Bool.and (prB (((.int 0 p.a.clients) : SY) = (.int 0 p.a.clients))) (Bool.and (prB (((.int 0 p.a.window) : SY) = (.int 0 p.a.window))) (Bool.and (prB (((.int 0 p.a.deadline) : SY) = (.int 0 p.a.deadline))) (Bool.and (prB (((.int 0 p.a.pace) : SY) = (.int 0 p.a.pace))) (Bool.and (prB (((.int 0 p.a.again) : SY) = (.int 0 p.a.again))) (Bool.and (prB (((.int 0 p.a.bag) : SY) = (.int 0 p.a.bag))) (Bool.and (prB (((.int 4 p.a.first) : SY) = (.int 4 p.a.first))) (Bool.and (prB (((.imm p.a.ho 9 OpR p.a.os encO) : SY) = (.imm p.a.ho 9 OpR p.a.os encO))) (true)))))))))) (useC (([.agg [.sy (.imm r9.t.hg 3 GrR r9.t.gs encG), .sy (.int 0 r9.t.clients), .sy (.int 0 r9.t.window), .sy (.int 0 r9.t.deadline), .sy (.int 0 r9.t.pace), .sy (.int 0 r9.t.again), .sy (.int 0 r9.t.bag), .sy (.int 4 r9.t.first), .sy (.imm r9.t.ho 9 OpR r9.t.os encO)]], .leaf, 0)) I_bigRight pre_bigRight po_bigRight fun p13 r10 => must (Bool.and (prB (((.imm p.a.hg 3 GrR p.a.gs encG) : SY) = (.imm p.a.hg 3 GrR p.a.gs encG))) (Bool.and (prB (((.int 0 p.a.clients) : SY) = (.int 0 p.a.clients))) (Bool.and (prB (((.int 0 p.a.window) : SY) = (.int 0 p.a.window))) (Bool.and (prB (((.int 0 p.a.deadline) : SY) = (.int 0 p.a.deadline))) (Bool.and (prB (((.int 0 p.a.pace) : SY) = (.int 0 p.a.pace))) (Bool.and (prB (((.int 0 p.a.again) : SY) = (.int 0 p.a.again))) (Bool.and (prB (((.int 0 p.a.bag) : SY) = (.int 0 p.a.bag))) (Bool.and (prB (((.int 4 p.a.first) : SY) = (.int 4 p.a.first))) (Bool.and (prB (((.imm p.a.ho 9 OpR p.a.os encO) : SY) = (.imm p.a.ho 9 OpR p.a.os encO))) (true)))))))))) (useC (([.agg [.sy (.imm p.a.hg 3 GrR p.a.gs encG), .sy (.int 0 p.a.clients), .sy (.int 0 p.a.window), .sy (.int 0 p.a.deadline), .sy (.int 0 p.a.pace), .sy (.int 0 p.a.again), .sy (.int 0 p.a.bag), .sy (.int 4 p.a.first), .sy (.imm p.a.ho 9 OpR p.a.os encO)]], .leaf, 0)) I_rRight pre_rRight po_rRight fun p14 r11 => iP (r10.q) (iP (r11.q) (exB fun p15 : A_knows => mP (([], .leaf, 0) = I_knows p15) z1) z0) (iP (r11.q) z0 (exB fun p16 : A_knows => mP (([], .leaf, 0) = I_knows p16) z1))))) true) (allB fun r8 : R_rprint2 => iP (po_rprint2 p11 r8) (iP ((([] : List Nat).map UInt8.ofNat) = r8.t) z0 z0) true))))) true) (allB fun r3 : R_print2 => iP (po_print2 p4 r3) (exB fun p5 : A_rprint => mP (([.agg [.sy (.imm p.a.hg 3 GrR p.a.gs encG), .sy (.int 0 p.a.clients), .sy (.int 0 p.a.window), .sy (.int 0 p.a.deadline), .sy (.int 0 p.a.pace), .sy (.int 0 p.a.again), .sy (.int 0 p.a.bag), .sy (.int 4 p.a.first), .sy (.imm p.a.ho 9 OpR p.a.os encO)]], .leaf, 0) = I_rprint p5) (mP (pre_rprint p5) (must (iP (po_rprint p5) (iP (r3.t = (([] : List Nat).map UInt8.ofNat)) z0 z0) true) (must (iP (po_rprint1 p5) (iP (r3.t = (([] : List Nat).map UInt8.ofNat)) z0 z0) true) (allB fun r4 : R_rprint2 => iP (po_rprint2 p5 r4) (iP (r3.t = r4.t) (useC (([.agg [.sy (.imm p.a.hg 3 GrR p.a.gs encG), .sy (.int 0 p.a.clients), .sy (.int 0 p.a.window), .sy (.int 0 p.a.deadline), .sy (.int 0 p.a.pace), .sy (.int 0 p.a.again), .sy (.int 0 p.a.bag), .sy (.int 4 p.a.first), .sy (.imm p.a.ho 9 OpR p.a.os encO)]], .leaf, 0)) I_own pre_own po_own fun p6 r5 => must (Bool.and (prB (((.imm p.a.hg 3 GrR p.a.gs encG) : SY) = (.imm p.a.hg 3 GrR p.a.gs encG))) (Bool.and (prB (((.int 0 p.a.clients) : SY) = (.int 0 p.a.clients))) (Bool.and (prB (((.int 0 p.a.window) : SY) = (.int 0 p.a.window))) (Bool.and (prB (((.int 0 p.a.deadline) : SY) = (.int 0 p.a.deadline))) (Bool.and (prB (((.int 0 p.a.pace) : SY) = (.int 0 p.a.pace))) (Bool.and (prB (((.int 0 p.a.again) : SY) = (.int 0 p.a.again))) (Bool.and (prB (((.int 0 p.a.bag) : SY) = (.int 0 p.a.bag))) (Bool.and (prB (((.int 4 p.a.first) : SY) = (.int 4 p.a.first))) (Bool.and (prB (((.imm p.a.ho 9 OpR p.a.os encO) : SY) = (.imm p.a.ho 9 OpR p.a.os encO))) (true)))))))))) (useC (([.agg [.sy (.imm r5.t.hg 3 GrR r5.t.gs encG), .sy (.int 0 r5.t.clients), .sy (.int 0 r5.t.window), .sy (.int 0 r5.t.deadline), .sy (.int 0 r5.t.pace), .sy (.int 0 r5.t.again), .sy (.int 0 r5.t.bag), .sy (.int 4 r5.t.first), .sy (.imm r5.t.ho 9 OpR r5.t.os encO)]], .leaf, 0)) I_bigRight pre_bigRight po_bigRight fun p7 r6 => must (Bool.and (prB (((.imm p.a.hg 3 GrR p.a.gs encG) : SY) = (.imm p.a.hg 3 GrR p.a.gs encG))) (Bool.and (prB (((.int 0 p.a.clients) : SY) = (.int 0 p.a.clients))) (Bool.and (prB (((.int 0 p.a.window) : SY) = (.int 0 p.a.window))) (Bool.and (prB (((.int 0 p.a.deadline) : SY) = (.int 0 p.a.deadline))) (Bool.and (prB (((.int 0 p.a.pace) : SY) = (.int 0 p.a.pace))) (Bool.and (prB (((.int 0 p.a.again) : SY) = (.int 0 p.a.again))) (Bool.and (prB (((.int 0 p.a.bag) : SY) = (.int 0 p.a.bag))) (Bool.and (prB (((.int 4 p.a.first) : SY) = (.int 4 p.a.first))) (Bool.and (prB (((.imm p.a.ho 9 OpR p.a.os encO) : SY) = (.imm p.a.ho 9 OpR p.a.os encO))) (true)))))))))) (useC (([.agg [.sy (.imm p.a.hg 3 GrR p.a.gs encG), .sy (.int 0 p.a.clients), .sy (.int 0 p.a.window), .sy (.int 0 p.a.deadline), .sy (.int 0 p.a.pace), .sy (.int 0 p.a.again), .sy (.int 0 p.a.bag), .sy (.int 4 p.a.first), .sy (.imm p.a.ho 9 OpR p.a.os encO)]], .leaf, 0)) I_rRight pre_rRight po_rRight fun p8 r7 => iP (r6.q) (iP (r7.q) (exB fun p9 : A_knows => mP (([], .leaf, 0) = I_knows p9) z1) z0) (iP (r7.q) z0 (exB fun p10 : A_knows => mP (([], .leaf, 0) = I_knows p10) z1))))) z0) true))))) true)))))) (exB fun p23 : A_knows => mP (([], .leaf, 0) = I_knows p23) z1)) true))) (by kernel_rfl) ?_
  dsimp only [pre_scriptPrints] at hpre
  refine callR (⟨p.a.ho, p.a.os⟩ : A_li24) rfl fun r1 hi1 => ?_
  dsimp only [po_li24] at hi1
  refine iI (fun hc2 => ?_) (fun hc2 => ?_)
  refine iI (fun hc3 => ?_) (fun hc3 => ?_)
  refine exB_mk ⟨⟩ ?_
  refine mI (rfl) ?_
  exact hK
  refine callPR (⟨p.a⟩ : A_own) rfl (by (try dsimp only [pre_own]) ; exact ⟨(by first | assumption | exact okO_via (by assumption) (by assumption) (by assumption) | exact (by assumption : _ → okO _) (by assumption)), (by first | omega | exact gs_via (by assumption) (by omega))⟩) fun r2 hi4 => ?_
  dsimp only [po_own] at hi4
  refine callP (⟨r2.t⟩ : A_print) rfl (by (try dsimp only [pre_print]) ; exact pr_via (by assumption) (by assumption) (by assumption) (by omega) hpre) ?_
  refine must_mk ?_ ?_
  refine iI (p := ¬ scR r2.t) (fun hi5 => ?_) (fun _ => rfl)
  refine callP (⟨p.a⟩ : A_rprint) rfl (by (try dsimp only [pre_rprint]) ; exact ⟨((by assumption : _ → okO _) (by assumption)), by omega, hpre⟩) ?_
  refine must_mk ?_ ?_
  refine iI (p := ¬ scR p.a) (fun hi6 => ?_) (fun _ => rfl)
  refine callPR (⟨p.a⟩ : A_own) rfl (by (try dsimp only [pre_own]) ; exact ⟨(by first | assumption | exact okO_via (by assumption) (by assumption) (by assumption) | exact (by assumption : _ → okO _) (by assumption)), (by first | omega | exact gs_via (by assumption) (by omega))⟩) fun r13 hi7 => ?_
  dsimp only [po_own] at hi7
  refine must_mk (by simp [prB]) ?_
  refine callPR (⟨r13.t⟩ : A_bigRight) rfl (by (try dsimp only [pre_bigRight]) ; have e7 := pr_via (a := p.a) (by assumption) (by assumption) (by assumption) (by omega) hpre ; exact ⟨e7.1, e7.2.1⟩) fun r14 hi8 => ?_
  dsimp only [po_bigRight] at hi8
  refine must_mk (by simp [prB]) ?_
  refine callPR (⟨p.a⟩ : A_rRight) rfl (by (try dsimp only [pre_rRight]) ; exact ⟨((by assumption : _ → okO _) (by assumption)), by omega, hpre⟩) fun r15 hi9 => ?_
  dsimp only [po_rRight] at hi9
  refine iI (fun hc10 => ?_) (fun hc10 => ?_)
  refine iI (fun hc11 => ?_) (fun hc11 => ?_)
  refine exB_mk ⟨⟩ ?_
  refine mI (rfl) ?_
  exact hK
  exfalso ; first | exact dA (a := p.a) (by assumption) (by assumption) (by assumption)  | exact dB (a := p.a) (by assumption) (by assumption) (by assumption)  | exact dC (a := p.a) (by assumption) (by assumption) (by assumption)  | exact dD (a := p.a) (by assumption) (by assumption) (by assumption)  | exact dE (a := p.a) (by assumption) (by assumption) (by assumption) (by assumption)  | exact dF (a := p.a) (by assumption) (by assumption) (by assumption) (by assumption) (by assumption)  | exact dG (a := p.a) (by assumption) (by assumption) (by assumption) (by assumption) (by assumption)  | exact dH (a := p.a) (by assumption) (by assumption) (by assumption) (by assumption) 
  refine iI (fun hc12 => ?_) (fun hc12 => ?_)
  exfalso ; first | exact dA (a := p.a) (by assumption) (by assumption) (by assumption)  | exact dB (a := p.a) (by assumption) (by assumption) (by assumption)  | exact dC (a := p.a) (by assumption) (by assumption) (by assumption)  | exact dD (a := p.a) (by assumption) (by assumption) (by assumption)  | exact dE (a := p.a) (by assumption) (by assumption) (by assumption) (by assumption)  | exact dF (a := p.a) (by assumption) (by assumption) (by assumption) (by assumption) (by assumption)  | exact dG (a := p.a) (by assumption) (by assumption) (by assumption) (by assumption) (by assumption)  | exact dH (a := p.a) (by assumption) (by assumption) (by assumption) (by assumption) 
  refine exB_mk ⟨⟩ ?_
  refine mI (rfl) ?_
  exact hK
  refine must_mk ?_ ?_
  refine iI (p := scR p.a ∧ 65536 < (textT p.a).length) (fun hi13 => ?_) (fun _ => rfl)
  exfalso ; first | exact dA (a := p.a) (by assumption) (by assumption) (by assumption)  | exact dB (a := p.a) (by assumption) (by assumption) (by assumption)  | exact dC (a := p.a) (by assumption) (by assumption) (by assumption)  | exact dD (a := p.a) (by assumption) (by assumption) (by assumption)  | exact dE (a := p.a) (by assumption) (by assumption) (by assumption) (by assumption)  | exact dF (a := p.a) (by assumption) (by assumption) (by assumption) (by assumption) (by assumption)  | exact dG (a := p.a) (by assumption) (by assumption) (by assumption) (by assumption) (by assumption)  | exact dH (a := p.a) (by assumption) (by assumption) (by assumption) (by assumption) 
  refine allB_mk (fun r12 => ?_)
  refine iI (p := scR p.a ∧ r12.t = textT p.a ∧ r12.t.length ≤ 65536) (fun hi14 => ?_) (fun _ => rfl)
  refine iI (fun hc15 => ?_) (fun hc15 => ?_)
  exfalso ; first | exact dA (a := p.a) (by assumption) (by assumption) (by assumption)  | exact dB (a := p.a) (by assumption) (by assumption) (by assumption)  | exact dC (a := p.a) (by assumption) (by assumption) (by assumption)  | exact dD (a := p.a) (by assumption) (by assumption) (by assumption)  | exact dE (a := p.a) (by assumption) (by assumption) (by assumption) (by assumption)  | exact dF (a := p.a) (by assumption) (by assumption) (by assumption) (by assumption) (by assumption)  | exact dG (a := p.a) (by assumption) (by assumption) (by assumption) (by assumption) (by assumption)  | exact dH (a := p.a) (by assumption) (by assumption) (by assumption) (by assumption) 
  exfalso ; first | exact dA (a := p.a) (by assumption) (by assumption) (by assumption)  | exact dB (a := p.a) (by assumption) (by assumption) (by assumption)  | exact dC (a := p.a) (by assumption) (by assumption) (by assumption)  | exact dD (a := p.a) (by assumption) (by assumption) (by assumption)  | exact dE (a := p.a) (by assumption) (by assumption) (by assumption) (by assumption)  | exact dF (a := p.a) (by assumption) (by assumption) (by assumption) (by assumption) (by assumption)  | exact dG (a := p.a) (by assumption) (by assumption) (by assumption) (by assumption) (by assumption)  | exact dH (a := p.a) (by assumption) (by assumption) (by assumption) (by assumption) 
  refine must_mk ?_ ?_
  refine iI (p := scR r2.t ∧ 65536 < (textT r2.t).length) (fun hi16 => ?_) (fun _ => rfl)
  refine callP (⟨p.a⟩ : A_rprint) rfl (by (try dsimp only [pre_rprint]) ; exact ⟨((by assumption : _ → okO _) (by assumption)), by omega, hpre⟩) ?_
  refine must_mk ?_ ?_
  refine iI (p := ¬ scR p.a) (fun hi17 => ?_) (fun _ => rfl)
  exfalso ; first | exact dA (a := p.a) (by assumption) (by assumption) (by assumption)  | exact dB (a := p.a) (by assumption) (by assumption) (by assumption)  | exact dC (a := p.a) (by assumption) (by assumption) (by assumption)  | exact dD (a := p.a) (by assumption) (by assumption) (by assumption)  | exact dE (a := p.a) (by assumption) (by assumption) (by assumption) (by assumption)  | exact dF (a := p.a) (by assumption) (by assumption) (by assumption) (by assumption) (by assumption)  | exact dG (a := p.a) (by assumption) (by assumption) (by assumption) (by assumption) (by assumption)  | exact dH (a := p.a) (by assumption) (by assumption) (by assumption) (by assumption) 
  refine must_mk ?_ ?_
  refine iI (p := scR p.a ∧ 65536 < (textT p.a).length) (fun hi18 => ?_) (fun _ => rfl)
  refine callPR (⟨p.a⟩ : A_own) rfl (by (try dsimp only [pre_own]) ; exact ⟨(by first | assumption | exact okO_via (by assumption) (by assumption) (by assumption) | exact (by assumption : _ → okO _) (by assumption)), (by first | omega | exact gs_via (by assumption) (by omega))⟩) fun r9 hi19 => ?_
  dsimp only [po_own] at hi19
  refine must_mk (by simp [prB]) ?_
  refine callPR (⟨r9.t⟩ : A_bigRight) rfl (by (try dsimp only [pre_bigRight]) ; have e7 := pr_via (a := p.a) (by assumption) (by assumption) (by assumption) (by omega) hpre ; exact ⟨e7.1, e7.2.1⟩) fun r10 hi20 => ?_
  dsimp only [po_bigRight] at hi20
  refine must_mk (by simp [prB]) ?_
  refine callPR (⟨p.a⟩ : A_rRight) rfl (by (try dsimp only [pre_rRight]) ; exact ⟨((by assumption : _ → okO _) (by assumption)), by omega, hpre⟩) fun r11 hi21 => ?_
  dsimp only [po_rRight] at hi21
  refine iI (fun hc22 => ?_) (fun hc22 => ?_)
  refine iI (fun hc23 => ?_) (fun hc23 => ?_)
  refine exB_mk ⟨⟩ ?_
  refine mI (rfl) ?_
  exact hK
  exfalso ; first | exact dA (a := p.a) (by assumption) (by assumption) (by assumption)  | exact dB (a := p.a) (by assumption) (by assumption) (by assumption)  | exact dC (a := p.a) (by assumption) (by assumption) (by assumption)  | exact dD (a := p.a) (by assumption) (by assumption) (by assumption)  | exact dE (a := p.a) (by assumption) (by assumption) (by assumption) (by assumption)  | exact dF (a := p.a) (by assumption) (by assumption) (by assumption) (by assumption) (by assumption)  | exact dG (a := p.a) (by assumption) (by assumption) (by assumption) (by assumption) (by assumption)  | exact dH (a := p.a) (by assumption) (by assumption) (by assumption) (by assumption) 
  refine iI (fun hc24 => ?_) (fun hc24 => ?_)
  exfalso ; first | exact dA (a := p.a) (by assumption) (by assumption) (by assumption)  | exact dB (a := p.a) (by assumption) (by assumption) (by assumption)  | exact dC (a := p.a) (by assumption) (by assumption) (by assumption)  | exact dD (a := p.a) (by assumption) (by assumption) (by assumption)  | exact dE (a := p.a) (by assumption) (by assumption) (by assumption) (by assumption)  | exact dF (a := p.a) (by assumption) (by assumption) (by assumption) (by assumption) (by assumption)  | exact dG (a := p.a) (by assumption) (by assumption) (by assumption) (by assumption) (by assumption)  | exact dH (a := p.a) (by assumption) (by assumption) (by assumption) (by assumption) 
  refine exB_mk ⟨⟩ ?_
  refine mI (rfl) ?_
  exact hK
  refine allB_mk (fun r8 => ?_)
  refine iI (p := scR p.a ∧ r8.t = textT p.a ∧ r8.t.length ≤ 65536) (fun hi25 => ?_) (fun _ => rfl)
  refine iI (fun hc26 => ?_) (fun hc26 => ?_)
  exfalso ; first | exact dA (a := p.a) (by assumption) (by assumption) (by assumption)  | exact dB (a := p.a) (by assumption) (by assumption) (by assumption)  | exact dC (a := p.a) (by assumption) (by assumption) (by assumption)  | exact dD (a := p.a) (by assumption) (by assumption) (by assumption)  | exact dE (a := p.a) (by assumption) (by assumption) (by assumption) (by assumption)  | exact dF (a := p.a) (by assumption) (by assumption) (by assumption) (by assumption) (by assumption)  | exact dG (a := p.a) (by assumption) (by assumption) (by assumption) (by assumption) (by assumption)  | exact dH (a := p.a) (by assumption) (by assumption) (by assumption) (by assumption) 
  exfalso ; first | exact dA (a := p.a) (by assumption) (by assumption) (by assumption)  | exact dB (a := p.a) (by assumption) (by assumption) (by assumption)  | exact dC (a := p.a) (by assumption) (by assumption) (by assumption)  | exact dD (a := p.a) (by assumption) (by assumption) (by assumption)  | exact dE (a := p.a) (by assumption) (by assumption) (by assumption) (by assumption)  | exact dF (a := p.a) (by assumption) (by assumption) (by assumption) (by assumption) (by assumption)  | exact dG (a := p.a) (by assumption) (by assumption) (by assumption) (by assumption) (by assumption)  | exact dH (a := p.a) (by assumption) (by assumption) (by assumption) (by assumption) 
  refine allB_mk (fun r3 => ?_)
  refine iI (p := scR r2.t ∧ r3.t = textT r2.t ∧ r3.t.length ≤ 65536) (fun hi27 => ?_) (fun _ => rfl)
  refine callP (⟨p.a⟩ : A_rprint) rfl (by (try dsimp only [pre_rprint]) ; exact ⟨((by assumption : _ → okO _) (by assumption)), by omega, hpre⟩) ?_
  refine must_mk ?_ ?_
  refine iI (p := ¬ scR p.a) (fun hi28 => ?_) (fun _ => rfl)
  refine iI (fun hc29 => ?_) (fun hc29 => ?_)
  exfalso ; first | exact dA (a := p.a) (by assumption) (by assumption) (by assumption)  | exact dB (a := p.a) (by assumption) (by assumption) (by assumption)  | exact dC (a := p.a) (by assumption) (by assumption) (by assumption)  | exact dD (a := p.a) (by assumption) (by assumption) (by assumption)  | exact dE (a := p.a) (by assumption) (by assumption) (by assumption) (by assumption)  | exact dF (a := p.a) (by assumption) (by assumption) (by assumption) (by assumption) (by assumption)  | exact dG (a := p.a) (by assumption) (by assumption) (by assumption) (by assumption) (by assumption)  | exact dH (a := p.a) (by assumption) (by assumption) (by assumption) (by assumption) 
  exfalso ; first | exact dA (a := p.a) (by assumption) (by assumption) (by assumption)  | exact dB (a := p.a) (by assumption) (by assumption) (by assumption)  | exact dC (a := p.a) (by assumption) (by assumption) (by assumption)  | exact dD (a := p.a) (by assumption) (by assumption) (by assumption)  | exact dE (a := p.a) (by assumption) (by assumption) (by assumption) (by assumption)  | exact dF (a := p.a) (by assumption) (by assumption) (by assumption) (by assumption) (by assumption)  | exact dG (a := p.a) (by assumption) (by assumption) (by assumption) (by assumption) (by assumption)  | exact dH (a := p.a) (by assumption) (by assumption) (by assumption) (by assumption) 
  refine must_mk ?_ ?_
  refine iI (p := scR p.a ∧ 65536 < (textT p.a).length) (fun hi30 => ?_) (fun _ => rfl)
  refine iI (fun hc31 => ?_) (fun hc31 => ?_)
  exfalso ; first | exact dA (a := p.a) (by assumption) (by assumption) (by assumption)  | exact dB (a := p.a) (by assumption) (by assumption) (by assumption)  | exact dC (a := p.a) (by assumption) (by assumption) (by assumption)  | exact dD (a := p.a) (by assumption) (by assumption) (by assumption)  | exact dE (a := p.a) (by assumption) (by assumption) (by assumption) (by assumption)  | exact dF (a := p.a) (by assumption) (by assumption) (by assumption) (by assumption) (by assumption)  | exact dG (a := p.a) (by assumption) (by assumption) (by assumption) (by assumption) (by assumption)  | exact dH (a := p.a) (by assumption) (by assumption) (by assumption) (by assumption) 
  exfalso ; first | exact dA (a := p.a) (by assumption) (by assumption) (by assumption)  | exact dB (a := p.a) (by assumption) (by assumption) (by assumption)  | exact dC (a := p.a) (by assumption) (by assumption) (by assumption)  | exact dD (a := p.a) (by assumption) (by assumption) (by assumption)  | exact dE (a := p.a) (by assumption) (by assumption) (by assumption) (by assumption)  | exact dF (a := p.a) (by assumption) (by assumption) (by assumption) (by assumption) (by assumption)  | exact dG (a := p.a) (by assumption) (by assumption) (by assumption) (by assumption) (by assumption)  | exact dH (a := p.a) (by assumption) (by assumption) (by assumption) (by assumption) 
  refine allB_mk (fun r4 => ?_)
  refine iI (p := scR p.a ∧ r4.t = textT p.a ∧ r4.t.length ≤ 65536) (fun hi32 => ?_) (fun _ => rfl)
  refine iI (fun hc33 => ?_) (fun hc33 => ?_)
  refine callPR (⟨p.a⟩ : A_own) rfl (by (try dsimp only [pre_own]) ; exact ⟨(by first | assumption | exact okO_via (by assumption) (by assumption) (by assumption) | exact (by assumption : _ → okO _) (by assumption)), (by first | omega | exact gs_via (by assumption) (by omega))⟩) fun r5 hi34 => ?_
  dsimp only [po_own] at hi34
  refine must_mk (by simp [prB]) ?_
  refine callPR (⟨r5.t⟩ : A_bigRight) rfl (by (try dsimp only [pre_bigRight]) ; have e7 := pr_via (a := p.a) (by assumption) (by assumption) (by assumption) (by omega) hpre ; exact ⟨e7.1, e7.2.1⟩) fun r6 hi35 => ?_
  dsimp only [po_bigRight] at hi35
  refine must_mk (by simp [prB]) ?_
  refine callPR (⟨p.a⟩ : A_rRight) rfl (by (try dsimp only [pre_rRight]) ; exact ⟨((by assumption : _ → okO _) (by assumption)), by omega, hpre⟩) fun r7 hi36 => ?_
  dsimp only [po_rRight] at hi36
  refine iI (fun hc37 => ?_) (fun hc37 => ?_)
  refine iI (fun hc38 => ?_) (fun hc38 => ?_)
  refine exB_mk ⟨⟩ ?_
  refine mI (rfl) ?_
  exact hK
  exfalso ; first | exact dA (a := p.a) (by assumption) (by assumption) (by assumption)  | exact dB (a := p.a) (by assumption) (by assumption) (by assumption)  | exact dC (a := p.a) (by assumption) (by assumption) (by assumption)  | exact dD (a := p.a) (by assumption) (by assumption) (by assumption)  | exact dE (a := p.a) (by assumption) (by assumption) (by assumption) (by assumption)  | exact dF (a := p.a) (by assumption) (by assumption) (by assumption) (by assumption) (by assumption)  | exact dG (a := p.a) (by assumption) (by assumption) (by assumption) (by assumption) (by assumption)  | exact dH (a := p.a) (by assumption) (by assumption) (by assumption) (by assumption) 
  refine iI (fun hc39 => ?_) (fun hc39 => ?_)
  exfalso ; first | exact dA (a := p.a) (by assumption) (by assumption) (by assumption)  | exact dB (a := p.a) (by assumption) (by assumption) (by assumption)  | exact dC (a := p.a) (by assumption) (by assumption) (by assumption)  | exact dD (a := p.a) (by assumption) (by assumption) (by assumption)  | exact dE (a := p.a) (by assumption) (by assumption) (by assumption) (by assumption)  | exact dF (a := p.a) (by assumption) (by assumption) (by assumption) (by assumption) (by assumption)  | exact dG (a := p.a) (by assumption) (by assumption) (by assumption) (by assumption) (by assumption)  | exact dH (a := p.a) (by assumption) (by assumption) (by assumption) (by assumption) 
  refine exB_mk ⟨⟩ ?_
  refine mI (rfl) ?_
  exact hK
  exfalso ; first | exact dA (a := p.a) (by assumption) (by assumption) (by assumption)  | exact dB (a := p.a) (by assumption) (by assumption) (by assumption)  | exact dC (a := p.a) (by assumption) (by assumption) (by assumption)  | exact dD (a := p.a) (by assumption) (by assumption) (by assumption)  | exact dE (a := p.a) (by assumption) (by assumption) (by assumption) (by assumption)  | exact dF (a := p.a) (by assumption) (by assumption) (by assumption) (by assumption) (by assumption)  | exact dG (a := p.a) (by assumption) (by assumption) (by assumption) (by assumption) (by assumption)  | exact dH (a := p.a) (by assumption) (by assumption) (by assumption) (by assumption) 
  refine exB_mk ⟨⟩ ?_
  refine mI (rfl) ?_
  exact hK
theorem na_scriptPrints : NatE Tryd.prog 3 0 (esOf I_scriptPrints (spP pre_scriptPrints out_scriptPrints)) := (natE_pl (f := 3) (k := 0) (cfT_ok nat_rprint_ok) ft_scriptPrints_ok (by rfl) (by rfl) vf_scriptPrints)
end Go.Proofs.Tryd
namespace Go.Proofs.YtdangmomddpegaaDoor.scriptPrints
open Go Go.RowKit Go.Eng Go.Sy Go.ChangeShapes Go.WideShapes Go.ChangeAt
open Go.Proofs.Tryd (PtR GrR OpR ScR encG encO rgP rgG rgO rgS rg_P rg_G rg_O rg_S)
set_option linter.unusedVariables false
set_option maxRecDepth 100000
theorem prB_eq (b : Bool) : prB (b = true) = b := by cases b <;> simp [prB]
theorem leafs111 : Leafs Tryd.prog 20 111 = some [5, 5, 9, 9, 2] := by kernel_rfl
theorem open_P {H : Type} {en : TypeId × Value → H} {W : World} {fuel : Nat} {cs : List Value} {x : DataW H × List MemPlace} (h : DataW.trod en Tryd.prog W 0 (fun _ => true) true fuel 67 cs = some x) :
    ∃ (ao : Option Addr) (cap : Nat) (t : List PtR), cs = [.slice ao t.length cap] ∧ OkP (GS.of W).M (.imm (.slice ao t.length cap) 5 PtR t Go.Proofs.Tryd.encP) ∧ ∀ x ∈ t, rgP x := by
  rcases Go.Deep.open_slice Tryd.underlying67 h with ⟨rfl, _⟩ | ⟨a, len, cap, m, n, D, Pl, rfl, _, hl, hm, rfl, _, hel⟩
  · exact ⟨none, 0, [], rfl, .imm none 0 rfl (by simp) (by decide) (by decide) (fun q => by simp at q) (fun x hx => by simp at hx) (fun x hx => by simp at hx) (fun i x hx => by simp at hx), fun x hx => by simp at hx⟩
  · obtain ⟨t, ht, hp⟩ := list_of (p := fun i (x : PtR) => W.cells? 0 (a.add (i * 5)) 5 = some ((Go.Proofs.Tryd.encP x).map valP) ∧ (∀ q ∈ Go.Proofs.Tryd.encP x, OkP (GS.of W).M q) ∧ rgP x) len (fun i hi => by
      obtain ⟨cs2, h1, h2⟩ := hel i (by first | omega | (simp ; omega))
      obtain ⟨hlen, hleaf⟩ := leafs_trod 20 111 _ leafs111 _ _ _ h2
      obtain ⟨c0, c1, c2, c3, c4, rfl⟩ : ∃ c0 c1 c2 c3 c4, cs2 = [c0, c1, c2, c3, c4] := by
        match cs2, hlen with
        | [c0, c1, c2, c3, c4], _ => exact ⟨c0, c1, c2, c3, c4, rfl⟩
      obtain ⟨z0, rfl, wz0⟩ := leaf_int Tryd.underlying5 (hleaf 0 _ _ rfl rfl)
      obtain ⟨z1, rfl, wz1⟩ := leaf_int Tryd.underlying5 (hleaf 1 _ _ rfl rfl)
      obtain ⟨z2, rfl, wz2⟩ := leaf_str Tryd.underlying9 (hleaf 2 _ _ rfl rfl)
      obtain ⟨z3, rfl, wz3⟩ := leaf_str Tryd.underlying9 (hleaf 3 _ _ rfl rfl)
      obtain ⟨z4, rfl, wz4⟩ := leaf_int Tryd.underlying2 (hleaf 4 _ _ rfl rfl)
      refine ⟨⟨z0, z1, z2, z3, z4⟩, ?_, ?_, rg_P wz0 wz1 wz4⟩
      · exact h1
      · intro q hq ; simp only [Go.Proofs.Tryd.encP, List.mem_cons, List.not_mem_nil, or_false] at hq
        rcases hq with rfl | rfl | rfl | rfl | rfl <;> first | exact .sint _ _ | exact .sstr _ | exact .sbool _)
    subst ht
    have r := rdf_of (base := 0) (en := fun x => (Go.Proofs.Tryd.encP x).map valP) (w := W) hl hm (by decide) (fun _ => rfl) (fun i x hx => (hp i x hx).1)
    exact ⟨some a, _, t, rfl, .imm (some a) _ rfl r.le r.cap (by decide) r.addr (fun x _ => rfl) (fun x hx => by
      obtain ⟨i, hi⟩ := List.mem_iff_getElem?.1 hx
      exact (hp i x hi).2.1) r.row, fun x hx => by
      obtain ⟨i, hi⟩ := List.mem_iff_getElem?.1 hx
      exact (hp i x hi).2.2⟩
theorem leafs83 : Leafs Tryd.prog 20 83 = some [3, 3, 4] := by kernel_rfl
theorem open_G {H : Type} {en : TypeId × Value → H} {W : World} {fuel : Nat} {cs : List Value} {x : DataW H × List MemPlace} (h : DataW.trod en Tryd.prog W 0 (fun _ => true) true fuel 22 cs = some x) :
    ∃ (ao : Option Addr) (cap : Nat) (t : List GrR), cs = [.slice ao t.length cap] ∧ OkP (GS.of W).M (.imm (.slice ao t.length cap) 3 GrR t encG) ∧ ∀ x ∈ t, rgG x := by
  rcases Go.Deep.open_slice Tryd.underlying22 h with ⟨rfl, _⟩ | ⟨a, len, cap, m, n, D, Pl, rfl, _, hl, hm, rfl, _, hel⟩
  · exact ⟨none, 0, [], rfl, .imm none 0 rfl (by simp) (by decide) (by decide) (fun q => by simp at q) (fun x hx => by simp at hx) (fun x hx => by simp at hx) (fun i x hx => by simp at hx), fun x hx => by simp at hx⟩
  · obtain ⟨t, ht, hp⟩ := list_of (p := fun i (x : GrR) => W.cells? 0 (a.add (i * 3)) 3 = some ((encG x).map valP) ∧ (∀ q ∈ encG x, OkP (GS.of W).M q) ∧ rgG x) len (fun i hi => by
      obtain ⟨cs2, h1, h2⟩ := hel i (by first | omega | (simp ; omega))
      obtain ⟨hlen, hleaf⟩ := leafs_trod 20 83 _ leafs83 _ _ _ h2
      obtain ⟨c0, c1, c2, rfl⟩ : ∃ c0 c1 c2, cs2 = [c0, c1, c2] := by
        match cs2, hlen with
        | [c0, c1, c2], _ => exact ⟨c0, c1, c2, rfl⟩
      obtain ⟨z0, rfl, wz0⟩ := leaf_int Tryd.underlying3 (hleaf 0 _ _ rfl rfl)
      obtain ⟨z1, rfl, wz1⟩ := leaf_int Tryd.underlying3 (hleaf 1 _ _ rfl rfl)
      obtain ⟨z2, rfl⟩ := leaf_bool Tryd.underlying4 (hleaf 2 _ _ rfl rfl)
      refine ⟨⟨z0, z1, z2 = true⟩, ?_, ?_, rg_G wz0 wz1⟩
      · refine Eq.trans h1 ?_ ; simp only [encG, List.map_cons, List.map_nil, valP, kOf, prB_eq]
      · intro q hq ; simp only [encG, List.mem_cons, List.not_mem_nil, or_false] at hq
        rcases hq with rfl | rfl | rfl <;> first | exact .sint _ _ | exact .sstr _ | exact .sbool _)
    subst ht
    have r := rdf_of (base := 0) (en := fun x => (encG x).map valP) (w := W) hl hm (by decide) (fun _ => rfl) (fun i x hx => (hp i x hx).1)
    exact ⟨some a, _, t, rfl, .imm (some a) _ rfl r.le r.cap (by decide) r.addr (fun x _ => rfl) (fun x hx => by
      obtain ⟨i, hi⟩ := List.mem_iff_getElem?.1 hx
      exact (hp i x hi).2.1) r.row, fun x hx => by
      obtain ⟨i, hi⟩ := List.mem_iff_getElem?.1 hx
      exact (hp i x hi).2.2⟩
theorem leafs69 : Leafs Tryd.prog 20 69 = some [3, 3, 3, 3, 3, 3, 49, 5, 67] := by kernel_rfl
theorem open_O {H : Type} {en : TypeId × Value → H} {W : World} {fuel : Nat} {cs : List Value} {x : DataW H × List MemPlace} (h : DataW.trod en Tryd.prog W 0 (fun _ => true) true fuel 26 cs = some x) :
    ∃ (ao : Option Addr) (cap : Nat) (t : List OpR), cs = [.slice ao t.length cap] ∧ OkP (GS.of W).M (.imm (.slice ao t.length cap) 9 OpR t encO) ∧ ∀ x ∈ t, rgO x := by
  rcases Go.Deep.open_slice Tryd.underlying26 h with ⟨rfl, _⟩ | ⟨a, len, cap, m, n, D, Pl, rfl, _, hl, hm, rfl, _, hel⟩
  · exact ⟨none, 0, [], rfl, .imm none 0 rfl (by simp) (by decide) (by decide) (fun q => by simp at q) (fun x hx => by simp at hx) (fun x hx => by simp at hx) (fun i x hx => by simp at hx), fun x hx => by simp at hx⟩
  · obtain ⟨t, ht, hp⟩ := list_of (p := fun i (x : OpR) => W.cells? 0 (a.add (i * 9)) 9 = some ((encO x).map valP) ∧ (∀ q ∈ encO x, OkP (GS.of W).M q) ∧ rgO x) len (fun i hi => by
      obtain ⟨cs2, h1, h2⟩ := hel i (by first | omega | (simp ; omega))
      obtain ⟨hlen, hleaf⟩ := leafs_trod 20 69 _ leafs69 _ _ _ h2
      obtain ⟨c0, c1, c2, c3, c4, c5, c6, c7, c8, rfl⟩ : ∃ c0 c1 c2 c3 c4 c5 c6 c7 c8, cs2 = [c0, c1, c2, c3, c4, c5, c6, c7, c8] := by
        match cs2, hlen with
        | [c0, c1, c2, c3, c4, c5, c6, c7, c8], _ => exact ⟨c0, c1, c2, c3, c4, c5, c6, c7, c8, rfl⟩
      obtain ⟨z0, rfl, wz0⟩ := leaf_int Tryd.underlying3 (hleaf 0 _ _ rfl rfl)
      obtain ⟨z1, rfl, wz1⟩ := leaf_int Tryd.underlying3 (hleaf 1 _ _ rfl rfl)
      obtain ⟨z2, rfl, wz2⟩ := leaf_int Tryd.underlying3 (hleaf 2 _ _ rfl rfl)
      obtain ⟨z3, rfl, wz3⟩ := leaf_int Tryd.underlying3 (hleaf 3 _ _ rfl rfl)
      obtain ⟨z4, rfl, wz4⟩ := leaf_int Tryd.underlying3 (hleaf 4 _ _ rfl rfl)
      obtain ⟨z5, rfl, wz5⟩ := leaf_int Tryd.underlying3 (hleaf 5 _ _ rfl rfl)
      obtain ⟨z6, rfl, wz6⟩ := leaf_int Tryd.underlying49 (hleaf 6 _ _ rfl rfl)
      obtain ⟨z7, rfl, wz7⟩ := leaf_int Tryd.underlying5 (hleaf 7 _ _ rfl rfl)
      obtain ⟨_, _, hs8⟩ := hleaf 8 _ _ rfl rfl
      obtain ⟨ao8, cap8, t8, e8, ok8, rg8⟩ := open_P hs8
      obtain rfl : c8 = _ := by simpa using e8
      refine ⟨⟨z0, z1, z2, z3, z4, z5, z6, z7, .slice ao8 t8.length cap8, t8⟩, ?_, ?_, rg_O wz0 wz1 wz2 wz3 wz4 wz5 wz6 wz7 rg8⟩
      · exact h1
      · intro q hq ; simp only [encO, List.mem_cons, List.not_mem_nil, or_false] at hq
        rcases hq with rfl | rfl | rfl | rfl | rfl | rfl | rfl | rfl | rfl <;> first | exact .sint _ _ | exact .sstr _ | exact .sbool _ | exact ok8)
    subst ht
    have r := rdf_of (base := 0) (en := fun x => (encO x).map valP) (w := W) hl hm (by decide) (fun _ => rfl) (fun i x hx => (hp i x hx).1)
    exact ⟨some a, _, t, rfl, .imm (some a) _ rfl r.le r.cap (by decide) r.addr (fun x _ => rfl) (fun x hx => by
      obtain ⟨i, hi⟩ := List.mem_iff_getElem?.1 hx
      exact (hp i x hi).2.1) r.row, fun x hx => by
      obtain ⟨i, hi⟩ := List.mem_iff_getElem?.1 hx
      exact (hp i x hi).2.2⟩
theorem leafsS : Leafs Tryd.prog 20 28 = some [22, 3, 3, 3, 3, 3, 3, 23, 26] := by kernel_rfl
theorem own : ownKnob Tryd.prog.godebug = none := by kernel_rfl
theorem laidOut : laidOutB Tryd.prog = true := by kernel_rfl
theorem tied_of_laid {W : World} (h : laidMet Tryd.prog Rows.scriptPrintsRow.laid W) : Tied (GS.of W).M := by
  obtain ⟨ps, h, _⟩ := h
  obtain ⟨_, _, _, _, _, _, _, _, _, _, h, _⟩ := h
  obtain ⟨_, _, _, _, _, _, _, _, _, _, h, _⟩ := h
  obtain ⟨g, t, cs, fuel, p, q, hg, ht, hvar, hd, _, _⟩ := h
  obtain rfl := Option.some.inj ((show Tryd.prog.globalNamed "internal/strconv.uint64pow10" = some 0 by kernel_rfl).symm.trans hg)
  obtain rfl := Option.some.inj ((show (Tryd.prog.globals[0]?).map (·.type) = some 142 by kernel_rfl).symm.trans ht)
  have e := Lib.cells_of_tab (zs := Lib.pow10Tab) (k := .u64) Tryd.underlying142 Tryd.underlying23 (by kernel_rfl) (by kernel_rfl) hd
  simp only [World.var?, hg, Option.bind_some] at hvar
  rcases hh : W.heap[0]? with _ | o
  · simp [hh] at hvar
  · cases o <;> simp [hh] at hvar
    rename_i c T fz
    subst hvar
    refine ⟨T, fz, ?_⟩
    simp only [GS.of, hh]
    rw [← e]
noncomputable def laidWorld (os : Os) : World :=
  let w0 := World.holding Tryd.prog os ⟨#[], #[], []⟩
  { w0 with heap := (((w0.heap.modify 2 fun
      | .cells _ t frozen => .cells #[.int .u8 0, .int .u8 1, .int .u8 28, .int .u8 2, .int .u8 29, .int .u8 14, .int .u8 24, .int .u8 3, .int .u8 30, .int .u8 22, .int .u8 20, .int .u8 15, .int .u8 25, .int .u8 17, .int .u8 4, .int .u8 8, .int .u8 31, .int .u8 27, .int .u8 13, .int .u8 23, .int .u8 21, .int .u8 19, .int .u8 16, .int .u8 7, .int .u8 26, .int .u8 12, .int .u8 18, .int .u8 6, .int .u8 11, .int .u8 5, .int .u8 10, .int .u8 9] t frozen
      | o => o).modify 3 fun
      | .cells _ t frozen => .cells #[.int .u8 0, .int .u8 1, .int .u8 56, .int .u8 2, .int .u8 57, .int .u8 49, .int .u8 28, .int .u8 3, .int .u8 61, .int .u8 58, .int .u8 42, .int .u8 50, .int .u8 38, .int .u8 29, .int .u8 17, .int .u8 4, .int .u8 62, .int .u8 47, .int .u8 59, .int .u8 36, .int .u8 45, .int .u8 43, .int .u8 51, .int .u8 22, .int .u8 53, .int .u8 39, .int .u8 33, .int .u8 30, .int .u8 24, .int .u8 18, .int .u8 12, .int .u8 5, .int .u8 63, .int .u8 55, .int .u8 48, .int .u8 27, .int .u8 60, .int .u8 41, .int .u8 37, .int .u8 16, .int .u8 46, .int .u8 35, .int .u8 44, .int .u8 21, .int .u8 52, .int .u8 32, .int .u8 23, .int .u8 11, .int .u8 54, .int .u8 26, .int .u8 40, .int .u8 15, .int .u8 34, .int .u8 20, .int .u8 31, .int .u8 10, .int .u8 25, .int .u8 14, .int .u8 19, .int .u8 9, .int .u8 13, .int .u8 8, .int .u8 7, .int .u8 6] t frozen
      | o => o).modify 0 fun
      | .cells _ t frozen => .cells #[.int .u64 1, .int .u64 10, .int .u64 100, .int .u64 1000, .int .u64 10000, .int .u64 100000, .int .u64 1000000, .int .u64 10000000, .int .u64 100000000, .int .u64 1000000000, .int .u64 10000000000, .int .u64 100000000000, .int .u64 1000000000000, .int .u64 10000000000000, .int .u64 100000000000000, .int .u64 1000000000000000, .int .u64 10000000000000000, .int .u64 100000000000000000, .int .u64 1000000000000000000, .int .u64 10000000000000000000] t frozen
      | o => o) }
theorem laidWorld_met (os : Os) (args : Array Value) : laidMet Tryd.prog Rows.scriptPrintsRow.laid ((laidWorld os).forCall (fun _ _ => 0) ⟨#[], args, []⟩).memory :=
  laidMet_of_run' 8 (by kernel_rfl) (by kernel_rfl)
theorem walk (a : ScR) (w : World) (hr : rgS a) (ht : Tied (GS.of w).M) (oga : OkP (GS.of w).M (.imm a.hg 3 GrR a.gs encG)) (ooa : OkP (GS.of w).M (.imm a.ho 9 OpR a.os encO)) : Calls Tryd.prog 3 #[.agg #[a.hg, .int .i64 a.clients, .int .i64 a.window, .int .i64 a.deadline, .int .i64 a.pace, .int .i64 a.again, .int .i64 a.bag, .int .u64 a.first, a.ho]] w (Ret (GS.of w) [] fun _ v => v = .bool true) := by
  let K : AV → T → Nat → Bool := fun v _ _ => prB (v = .bool true)
  have hE : EOk ⟨fun _ => .bool true, (GS.of w).M⟩ := ⟨fun i => rfl, ht⟩
  have hd : denL ⟨fun _ => .bool true, (GS.of w).M⟩ (fun _ => none) [.agg [.sy (.imm a.hg 3 GrR a.gs encG), .sy (.int 0 a.clients), .sy (.int 0 a.window), .sy (.int 0 a.deadline), .sy (.int 0 a.pace), .sy (.int 0 a.again), .sy (.int 0 a.bag), .sy (.int 4 a.first), .sy (.imm a.ho 9 OpR a.os encO)]] = some [.agg #[a.hg, .int .i64 a.clients, .int .i64 a.window, .int .i64 a.deadline, .int .i64 a.pace, .int .i64 a.again, .int .i64 a.bag, .int .u64 a.first, a.ho]] := by
    simp only [denL, den, denS, denP_mk (E := ⟨fun _ => .bool true, (GS.of w).M⟩) oga, denP_mk (E := ⟨fun _ => .bool true, (GS.of w).M⟩) ooa, valP, kOf]
  refine Tryd.na_scriptPrints [.agg [.sy (.imm a.hg 3 GrR a.gs encG), .sy (.int 0 a.clients), .sy (.int 0 a.window), .sy (.int 0 a.deadline), .sy (.int 0 a.pace), .sy (.int 0 a.again), .sy (.int 0 a.bag), .sy (.int 4 a.first), .sy (.imm a.ho 9 OpR a.os encO)]] [.agg #[a.hg, .int .i64 a.clients, .int .i64 a.window, .int .i64 a.deadline, .int .i64 a.pace, .int .i64 a.again, .int .i64 a.bag, .int .u64 a.first, a.ho]] ⟨fun _ => .bool true, (GS.of w).M⟩ (fun _ => none) (GS.of w) [] .leaf 0 w K _ hE (Sim.start rfl (Holds.start w)) hd ?_ ?_
  · exact exB_mk ⟨a⟩ (mustP rfl (mustP (by exact hr) (prB_true.2 rfl)))
  · intro v M' nx' E' ρ' w' z hk h1 h2 h3 h4 h5
    obtain ⟨G', g1, g2, g3⟩ := h4.holds
    refine ⟨z, G', rfl, g1, g2, ?_⟩
    have := prB_true.1 hk
    subst this
    simpa [den] using h5.symm
theorem lifted (os : Os) (started : os.Started) (H : Type) (enc : TypeId × Value → H) :
    ReturnsInHanded {} Tryd.checked os 3 .any (fun w args => (Rows.scriptPrintsSpec.pre enc Tryd.prog Tryd.f3 Rows.scriptPrintsRow.domain false w args ∧ laidMet Tryd.prog Rows.scriptPrintsRow.laid w) ∧ sizedMet enc Tryd.prog Tryd.f3 (OpenSpec.ofChange Rows.scriptPrintsSpec) false w args)
      (Rows.scriptPrintsSpec.post enc Tryd.prog Tryd.f3 false true false false) := by
  refine returnsInHanded_of_change_and (C := Tryd.checked) (X := fun w _ => laidMet Tryd.prog Rows.scriptPrintsRow.laid w) (fun _ _ _ hh h => h.of_heap hh) own started (by kernel_rfl) Tryd.func3
    (ChangeSpec.witness_at (enc := enc) (C := Tryd.checked) (os := os) (X := fun w _ => laidMet Tryd.prog Rows.scriptPrintsRow.laid w) false (laidWorld os) #[.agg #[.slice none 0 0, .int .i64 0, .int .i64 0, .int .i64 0, .int .i64 0, .int .i64 0, .int .i64 0, .int .u64 0, .slice none 0 0]] 8 rfl (by kernel_rfl) (by kernel_rfl) (by kernel_rfl) (by kernel_rfl) (by kernel_rfl) (laidWorld_met os _)) ?_
  intro W base args ds gs before hval0 hW _ _ hL _
  have hval : ∀ (j : Nat) t v, Tryd.f3.params[j]? = some t → args[j]? = some v → Value.okWide Tryd.prog W .any base t v := hval0
  have hW' := hW
  obtain ⟨p, q, hA0, hV, rfl, hfz, hnd⟩ := hW
  have hA : DataW.TrodAll enc Tryd.prog W 0 (fun _ => true) true Tryd.f3.params.toList args.toList ds p := hA0
  rw [Tryd.params3] at hA hval
  obtain ⟨v0, vs0, d0, ds0, p0, q0, hargs0, rfl, rfl, h0, r0⟩ := trodAll_cons hA
  obtain ⟨rfl, rfl, rfl⟩ := trodAll_nil r0
  obtain rfl : args = #[v0] := by cases args; simp_all
  obtain ⟨rfl, rfl⟩ := trodVars_none hV
  obtain ⟨cs0, rfl, hsz0⟩ := okWide_struct Tryd.underlying28 (hval 0 28 v0 rfl rfl)
  have j0 := h0
  have lt0 : ∀ x ∈ p0, x.block < W.heap.size := by obtain ⟨m, hm⟩ := j0; exact DataW.trod_lt m _ _ _ hm
  obtain ⟨fuel0, hf0⟩ := h0
  obtain ⟨hlen0, hleaf0⟩ := leafs_trod 20 28 _ leafsS _ _ _ hf0
  obtain ⟨ac0, ac1, ac2, ac3, ac4, ac5, ac6, ac7, ac8, hcs0⟩ : ∃ ac0 ac1 ac2 ac3 ac4 ac5 ac6 ac7 ac8, Value.cells (.agg cs0) = #[ac0, ac1, ac2, ac3, ac4, ac5, ac6, ac7, ac8] := by
    match h : (Value.cells (.agg cs0)).toList, hlen0 with
    | [ac0, ac1, ac2, ac3, ac4, ac5, ac6, ac7, ac8], _ => exact ⟨ac0, ac1, ac2, ac3, ac4, ac5, ac6, ac7, ac8, Array.toList_inj.1 h⟩
  have hd0 : cs0 = #[ac0, ac1, ac2, ac3, ac4, ac5, ac6, ac7, ac8] := hcs0
  rw [hcs0] at hleaf0
  obtain ⟨_, _, hsa0⟩ := hleaf0 0 _ _ rfl rfl
  obtain ⟨aoa0, capa0, ta0, ea0, oka0, rga0⟩ := open_G hsa0
  obtain rfl : ac0 = _ := by simpa using ea0
  obtain ⟨az1, rfl, waz1⟩ := leaf_int Tryd.underlying3 (hleaf0 1 _ _ rfl rfl)
  obtain ⟨az2, rfl, waz2⟩ := leaf_int Tryd.underlying3 (hleaf0 2 _ _ rfl rfl)
  obtain ⟨az3, rfl, waz3⟩ := leaf_int Tryd.underlying3 (hleaf0 3 _ _ rfl rfl)
  obtain ⟨az4, rfl, waz4⟩ := leaf_int Tryd.underlying3 (hleaf0 4 _ _ rfl rfl)
  obtain ⟨az5, rfl, waz5⟩ := leaf_int Tryd.underlying3 (hleaf0 5 _ _ rfl rfl)
  obtain ⟨az6, rfl, waz6⟩ := leaf_int Tryd.underlying3 (hleaf0 6 _ _ rfl rfl)
  obtain ⟨az7, rfl, waz7⟩ := leaf_int Tryd.underlying23 (hleaf0 7 _ _ rfl rfl)
  obtain ⟨_, _, hsa8⟩ := hleaf0 8 _ _ rfl rfl
  obtain ⟨aoa8, capa8, ta8, ea8, oka8, rga8⟩ := open_O hsa8
  obtain rfl : ac8 = _ := by simpa using ea8
  subst hd0
  clear hA0 hval0
  simp only [List.append_nil] at hW'
  have hw := walk ⟨.slice aoa0 ta0.length capa0, ta0, az1, az2, az3, az4, az5, az6, az7, .slice aoa8 ta8.length capa8, ta8⟩ W (rg_S waz1 waz2 waz3 waz4 waz5 waz6 waz7 rga0 rga8) (tied_of_laid hL) oka0 oka8
  refine hw.mono fun e W2 ⟨v, G2, he, hG, hh, hv⟩ => ?_
  subst he; subst hv
  have bel : Below W.heap.size W W2 := Holds.below hG hh
  exact ⟨_, rfl, _, _, _, [], _, [], hW', trodAll_mk1 (shut_bool Tryd.underlying4 _), (trodAll_cons_mk (Below.trod laidOut (by kernel_rfl) (of_decide_eq_true (by kernel_rfl)) j0 bel lt0) trodAll_mk0), rfl, bel.frame _, fun h => by cases h⟩
theorem over : Rows.scriptPrintsRow.holds Tryd.pinned (OpenSpec.ofChange Rows.scriptPrintsSpec) :=
  OpenClaim.holds_of_wide 3 Tryd.f3 rfl rfl rfl rfl rfl rfl rfl ⟨rfl, rfl, rfl, rfl, rfl⟩ rfl rfl rfl rfl rfl (by kernel_rfl) Tryd.func3 (by kernel_rfl)
    (of_decide_eq_true (by kernel_rfl)) (by unfold Func.isWrapper; first | (rw [if_pos (by decide +kernel)]; kernel_rfl) | (rw [if_neg (by decide +kernel)]; exact ⟨rfl, rfl⟩))
    (fun os started H enc _ => lifted os started H enc)
theorem card_holds : Rows.ScriptPrintsCardSaid :=
  Claim7.holds_tied_plain_at .later [] [.data, .data, .data] true (true, "216f007a70444538582a332a930cf64bfc7a1f90d4f9ff3b8525ae38727075b0") false over (fun _ h => by cases h) (by kernel_rfl) (fun _ h => by cases h) scriptPrints_row_tie rfl ⟨rfl, rfl⟩ (by kernel_rfl) rfl
    (fun f fn hf hfn => by
      obtain rfl : f = 3 := Option.some.inj ((show Tryd.prog.funcNamed "gemot/gemotlaw27.ScriptPrints" = some 3 by kernel_rfl).symm.trans hf) |>.symm
      obtain rfl : fn = Tryd.f3 := (Option.some.inj (Tryd.func3.symm.trans hfn)).symm
      exact ⟨by kernel_rfl, fun j t ht => by
        rw [Tryd.params3] at ht
        have ht2 := List.mem_of_getElem? (by simpa using ht)
        simp only [List.mem_cons, List.not_mem_nil, or_false, or_self] at ht2
        subst ht2
        exact (show Tryd.prog.wantsStandIn 28 = false by kernel_rfl)
        ⟩)
    (by kernel_rfl)
#print axioms card_holds
end Go.Proofs.YtdangmomddpegaaDoor.scriptPrints