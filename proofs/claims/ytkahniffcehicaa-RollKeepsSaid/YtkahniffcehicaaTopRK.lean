/- RollKeeps: whatever is lost, doubled and late, the call returns true, and what came in reads as before. No condition beyond the row itself. -/
import Derived.Test.YtkahniffcehicaaM4
import Derived.KernelRfl
import Derived.Test.YtkahniffcehicaaRows
import Derived.WalkKit
import Derived.ProofKit
import Derived.OpenShut
import Derived.Below
import Derived.LaidLaws
import Derived.RowKit
namespace Go.Proofs.Try
open Go Go.RowKit Go.Sy
open Go.Eng hiding allB
set_option maxRecDepth 1000000
set_option linter.unusedVariables false
set_option maxHeartbeats 4000000
def encZ (x : Int) : List PL := [.sint 0 x]
def cntB : List Bool → Int
 | [] => 0
 | true :: l => 1 + cntB l
 | false :: l => cntB l
theorem cntB_len : ∀ l : List Bool, cntB l = ((l.filter id).length : Int)
 | [] => rfl
 | true :: l => by have := cntB_len l; simp [cntB] at *; omega
 | false :: l => by have := cntB_len l; simp [cntB] at *; omega
theorem cntB_le : ∀ l : List Bool, 0 ≤ cntB l ∧ cntB l ≤ (l.length : Int)
 | [] => by simp [cntB]
 | true :: l => by have := cntB_le l; simp [cntB] at *; omega
 | false :: l => by have := cntB_le l; simp [cntB] at *; omega
theorem cnt_flip (a : List Bool) {p q : Prop} (b : List Bool) (hp : ¬ p) (hq : q) : cntB (a ++ prB p :: b) + 1 = cntB (a ++ prB q :: b) := by
 have h1 : prB p = false := prB_false.2 hp
 have h2 : prB q = true := prB_true.2 hq
 induction a with
 | nil => simp only [List.nil_append, h1, h2, cntB]; omega
 | cons x a ih => cases x <;> simp only [List.cons_append, cntB] <;> omega
def ShutTo (rs : List Rl) (bs : List Bool) (i L : Int) : Prop := ∀ (j : Nat) (r : Rl), rs[j]? = some r → bs[j]? = some true → (j : Int) < i → r.sh ∧ (r.l.length : Int) ≤ L
theorem shut_zero (rs : List Rl) (bs : List Bool) (L : Int) : ShutTo rs bs 0 L := fun j r _ _ h => by omega
theorem shut_no {rs : List Rl} {bs : List Bool} {i L : Int} {k : Nat} (h : ShutTo rs bs i L) (hk : i = (k : Int)) (hb : bs[k]? = some false) : ShutTo rs bs (i + 1) L := fun j r h1 h2 h3 => by
 by_cases e : j = k
 ·subst e; rw [hb] at h2; cases h2
 ·exact h j r h1 h2 (by omega)
theorem shut_yes {rs rs' : List Rl} {bs : List Bool} {i L L' : Int} {k : Nat} {l : List Int} {com : Int} {sh p : Prop} (h : ShutTo rs bs i L) (hk : i = (k : Int)) (hr : rs[k]? = some ⟨l, com, sh⟩) (hs : rs' = rs.set k ⟨l, com, p⟩) (hp : p) (hL : L' = max L (l.length : Int)) : ShutTo rs' bs (i + 1) L' := fun j r h1 h2 h3 => by
 rw [hs, List.getElem?_set] at h1
 split at h1
 ·rename_i e; subst e
  split at h1
  ·cases h1; exact ⟨hp, by simp only; omega⟩
  ·cases h1
 ·have := h j r h1 h2 (by omega); exact ⟨this.1, by omega⟩
theorem shut_frz {rs rs' : List Rl} {bs : List Bool} {i L : Int} (h : ShutTo rs bs i L) (hf : Frz rs rs') : ShutTo rs' bs i L := fun j r h1 h2 h3 => by
 have hj : j < rs.length := by rw [hf.1]; exact (List.getElem?_eq_some_iff.1 h1).1
 obtain ⟨k1, k2⟩ := h j _ (List.getElem?_eq_getElem hj) h2 h3
 obtain ⟨k3, k4⟩ := hf.2 j _ r (List.getElem?_eq_getElem hj) h1 k1
 exact ⟨k3, by rw [k4]; exact k2⟩
def Held (rs : List Rl) (L : Int) : Prop := ∃ bs : List Bool, bs.length = rs.length ∧ (rs.length : Int) < 2 * cntB bs ∧ ShutTo rs bs (rs.length : Int) L
theorem held_frz {rs rs' : List Rl} {L : Int} (h : Held rs L) (hf : Frz rs rs') : Held rs' L := by
 obtain ⟨bs, h1, h2, h3⟩ := h
 exact ⟨bs, by rw [← hf.1]; exact h1, by rw [← hf.1]; exact h2, by rw [← hf.1]; exact shut_frz h3 hf⟩
theorem held_com {hd : Rl} {tl : List Rl} {cs : List Int} {fly : List Told} {L : Int} (h : FInv hd tl cs fly) (hh : Held (hd :: tl) L) {j : Nat} {r : Rl} (hr : (hd :: tl)[j]? = some r) : r.com ≤ L := by
 obtain ⟨bs, h1, h2, h3⟩ := hh
 have h4 : hd.com ≤ L := h.keeps bs (by simpa using h1) (by rw [cntB_len] at h2; simp only [List.length_cons] at h2; omega) fun j r k1 k2 => (h3 j r k1 k2 (by have := (List.getElem?_eq_some_iff.1 k1).1; omega)).2
 have := (h.right hr).comh
 omega
theorem prB_f {p : Prop} (h : ¬ p) : prB p = false := prB_false.2 h
noncomputable def Fk1 (f : F1) (b0 : Prop) (k0 : Nat) (k1 : Nat) : T := Fh1 f k0 k1 (.blk false 4 1 [[.sy (.bool b0)]])
noncomputable def Fk1n (f : F1) (b0 : Prop) : T := Fk1 f b0 f.fly.length f.s0.l.length
noncomputable def Fk2 (f : F2) (b0 : Prop) (b1 : Prop) (k0 : Nat) (k1 : Nat) (k2 : Nat) : T := Fh2 f k0 k1 k2 (.blk false 4 1 [[.sy (.bool b0)], [.sy (.bool b1)]])
noncomputable def Fk2n (f : F2) (b0 : Prop) (b1 : Prop) : T := Fk2 f b0 b1 f.fly.length f.s0.l.length f.s1.l.length
noncomputable def Fk3 (f : F3) (b0 : Prop) (b1 : Prop) (b2 : Prop) (k0 : Nat) (k1 : Nat) (k2 : Nat) (k3 : Nat) : T := Fh3 f k0 k1 k2 k3 (.blk false 4 1 [[.sy (.bool b0)], [.sy (.bool b1)], [.sy (.bool b2)]])
noncomputable def Fk3n (f : F3) (b0 : Prop) (b1 : Prop) (b2 : Prop) : T := Fk3 f b0 b1 b2 f.fly.length f.s0.l.length f.s1.l.length f.s2.l.length
noncomputable def Fk4 (f : F4) (b0 : Prop) (b1 : Prop) (b2 : Prop) (b3 : Prop) (k0 : Nat) (k1 : Nat) (k2 : Nat) (k3 : Nat) (k4 : Nat) : T := Fh4 f k0 k1 k2 k3 k4 (.blk false 4 1 [[.sy (.bool b0)], [.sy (.bool b1)], [.sy (.bool b2)], [.sy (.bool b3)]])
noncomputable def Fk4n (f : F4) (b0 : Prop) (b1 : Prop) (b2 : Prop) (b3 : Prop) : T := Fk4 f b0 b1 b2 b3 f.fly.length f.s0.l.length f.s1.l.length f.s2.l.length f.s3.l.length
noncomputable def Fk5 (f : F5) (b0 : Prop) (b1 : Prop) (b2 : Prop) (b3 : Prop) (b4 : Prop) (k0 : Nat) (k1 : Nat) (k2 : Nat) (k3 : Nat) (k4 : Nat) (k5 : Nat) : T := Fh5 f k0 k1 k2 k3 k4 k5 (.blk false 4 1 [[.sy (.bool b0)], [.sy (.bool b1)], [.sy (.bool b2)], [.sy (.bool b3)], [.sy (.bool b4)]])
noncomputable def Fk5n (f : F5) (b0 : Prop) (b1 : Prop) (b2 : Prop) (b3 : Prop) (b4 : Prop) : T := Fk5 f b0 b1 b2 b3 b4 f.fly.length f.s0.l.length f.s1.l.length f.s2.l.length f.s3.l.length f.s4.l.length
def ft_rollKeeps : XF := .mk 153 (.one 8) (.seq (g_ 1 [p_ 0 8 (.mv (.c (.bool false)))]) (.seq (.seq (g_ 17 [p_ 0 19 (m_ 1), p_ 1 20 (k_ 19), p_ 2 21 (.bin 3 2 (.t 20) (i_ 100)), p_ 3 22 (m_ 21), pg_ 4 23 22 false (m_ 3), pg_ 5 24 22 false (k_ 23), pg_ 6 25 22 false (.bin 3 2 (.t 24) (i_ 100)), p_ 7 26 (.pick (.t 22) (.c (.bool true)) (.t 25)), p_ 8 27 (m_ 26), pg_ 9 28 27 false (m_ 2), pg_ 10 29 27 false (k_ 28), pg_ 11 30 27 false (.bin 3 2 (.t 29) (i_ 20)), p_ 12 31 (.pick (.t 27) (.c (.bool true)) (.t 30)), p_ 13 32 (m_ 31), cg_ 14 33 32 false 16 [], pg_ 15 34 32 false (.un 0 (.t 33)), p_ 16 35 (.pick (.t 32) (.c (.bool true)) (.t 34))]) (.cond (.t 35) (.seq (g_ 2 [c_ 0 36 16 [], p_ 1 8 (m_ 36)]) .ret) .skip)) (.seq (g_ 3 [p_ 0 37 (m_ 0), c_ 1 38 27 [.t 37], p_ 2 9 (m_ 38)]) (.seq (.seq (g_ 1 [p_ 0 10 (.mv (i_ 0))]) (.block 2 (.pre [.can 0 [1, 2, 3, 9, 10], .up 10, .can 0 [1, 2, 3, 9, 10]] (.inv 0 (.aft (.seq (.seq (g_ 4 [p_ 0 39 (m_ 10), p_ 1 40 (m_ 1), p_ 2 41 (k_ 40), p_ 3 42 (.bin 3 0 (.t 39) (.t 41))]) (.cond (.t 42) .skip (.exit 2))) (.seq (.block 3 (g_ 6 [p_ 0 45 (m_ 9), p_ 1 46 (m_ 1), p_ 2 47 (m_ 10), p_ 3 48 (.ixs 4 (.t 46) (.t 47)), r_ 4 49 (.ld true 4 (.t 48)), c_ 5 50 28 [.t 45, .t 49]])) (g_ 3 [p_ 0 43 (m_ 10), p_ 1 44 (.bin 0 0 (.t 43) (i_ 1)), p_ 2 10 (m_ 44)]))) [(0, [.can 0 [1, 2, 3, 9, 10]]), (2, [.can 0 [2, 3, 9]])]))))) (.seq (g_ 7 [p_ 0 51 (m_ 9), p_ 1 52 (n_ 51), p_ 2 53 (f_ 0 52), r_ 3 54 (l_ 53), p_ 4 55 (k_ 54), e_ 5 56 (.mks 4 1 1 [.bool false] (.t 55) (.t 55)), p_ 6 11 (m_ 56)]) (.seq (g_ 1 [p_ 0 12 (.mv (i_ 0))]) (.seq (.seq (g_ 1 [p_ 0 13 (.mv (i_ 0))]) (.block 4 (.pre [.can 0 [2, 3, 9, 11, 12, 13], .up 12, .up 13, .upc 1 0 0, .upc 1 1 0, .upc 1 2 0, .upc 1 3 0, .upc 1 4 0, .can 0 [2, 3, 9, 11, 12, 13]] (.inv 1 (.aft (.seq (.seq (g_ 4 [p_ 0 57 (m_ 13), p_ 1 58 (m_ 2), p_ 2 59 (k_ 58), p_ 3 60 (.bin 3 0 (.t 57) (.t 59))]) (.cond (.t 60) .skip (.exit 4))) (.seq (.block 5 (.seq (.aft (g_ 14 [p_ 0 63 (m_ 2), p_ 1 64 (m_ 13), p_ 2 65 (.ixs 1 (.t 63) (.t 64)), r_ 3 66 (l_ 65), p_ 4 67 (m_ 11), p_ 5 68 (k_ 67), p_ 6 69 (.bin 0 4 (.t 66) (.t 68)), p_ 7 70 (m_ 11), p_ 8 71 (k_ 70), p_ 9 72 (.bin 0 0 (.t 69) (.t 71)), p_ 10 73 (m_ 11), p_ 11 74 (k_ 73), p_ 12 75 (.bin 0 4 (.t 72) (.t 74)), p_ 13 14 (m_ 75)]) [(0, [.fix 14 6])]) (.seq (g_ 5 [p_ 0 76 (m_ 11), p_ 1 77 (m_ 14), p_ 2 78 (.ixs 1 (.t 76) (.t 77)), r_ 3 79 (l_ 78), p_ 4 80 (.un 0 (.t 79))]) (.cond (.t 80) (.seq (g_ 4 [p_ 0 81 (m_ 11), p_ 1 82 (m_ 14), p_ 2 83 (.ixs 1 (.t 81) (.t 82)), e0_ 3 (.st 1 (.t 83) (.c (.bool true)))]) (g_ 3 [p_ 0 84 (m_ 12), p_ 1 85 (.bin 0 0 (.t 84) (i_ 1)), p_ 2 12 (m_ 85)])) .skip)))) (g_ 3 [p_ 0 61 (m_ 13), p_ 1 62 (.bin 0 0 (.t 61) (i_ 1)), p_ 2 13 (m_ 62)]))) [(0, [.upc 1 0 0, .upc 1 1 0, .upc 1 2 0, .upc 1 3 0, .upc 1 4 0, .can 0 [2, 3, 9, 11, 12, 13]]), (4, [.can 0 [3, 9, 11, 12]])]))))) (.seq (.seq (g_ 5 [p_ 0 86 (m_ 12), p_ 1 87 (.bin 0 2 (i_ 2) (.t 86)), p_ 2 88 (m_ 11), p_ 3 89 (k_ 88), p_ 4 90 (.bin 3 1 (.t 87) (.t 89))]) (.cond (.t 90) (.seq (g_ 1 [p_ 0 8 (.mv (.c (.bool true)))]) .ret) .skip)) (.seq (g_ 1 [p_ 0 15 (.mv (i_ 0))]) (.seq (.seq (g_ 1 [p_ 0 16 (.mv (i_ 0))]) (.block 6 (.pre [.can 0 [3, 9, 11, 15, 16], .up 15, .up 16, .can 0 [3, 9, 11, 15, 16]] (.inv 2 (.aft (.seq (.seq (.pre [.fix 16 6] (g_ 4 [p_ 0 91 (m_ 16), p_ 1 92 (m_ 11), p_ 2 93 (k_ 92), p_ 3 94 (.bin 3 0 (.t 91) (.t 93))])) (.cond (.t 94) .skip (.exit 6))) (.seq (.block 7 (.seq (g_ 4 [p_ 0 97 (m_ 11), p_ 1 98 (m_ 16), p_ 2 99 (.ixs 1 (.t 97) (.t 98)), r_ 3 100 (l_ 99)]) (.cond (.t 100) (.seq (g_ 8 [p_ 0 101 (m_ 9), p_ 1 102 (n_ 101), p_ 2 103 (f_ 0 102), r_ 3 104 (l_ 103), p_ 4 105 (m_ 16), p_ 5 106 (.ixs 1 (.t 104) (.t 105)), r_ 6 107 (l_ 106), c_ 7 108 18 [.t 107]]) (g_ 12 [p_ 0 109 (m_ 15), p_ 1 110 (m_ 9), p_ 2 111 (n_ 110), p_ 3 112 (f_ 0 111), r_ 4 113 (l_ 112), p_ 5 114 (m_ 16), p_ 6 115 (.ixs 1 (.t 113) (.t 114)), r_ 7 116 (l_ 115), c_ 8 117 24 [.t 116], p_ 9 118 (k_ 117), p_ 10 119 (.mx true (.t 109) (.t 118)), p_ 11 15 (m_ 119)])) .skip))) (g_ 3 [p_ 0 95 (m_ 16), p_ 1 96 (.bin 0 0 (.t 95) (i_ 1)), p_ 2 16 (m_ 96)]))) [(0, [.up 16, .upc 4 0 8, .upc 5 0 8, .upc 6 0 8, .upc 7 0 8, .upc 8 0 8, .can 0 [3, 9, 11, 15, 16]]), (6, [.can 0 [3, 9, 15]])]))))) (.seq (.seq (g_ 1 [p_ 0 17 (.mv (i_ 0))]) (.block 8 (.pre [.can 0 [3, 9, 15, 17], .up 17, .can 0 [3, 9, 15, 17]] (.inv 3 (.aft (.seq (.seq (g_ 4 [p_ 0 120 (m_ 17), p_ 1 121 (m_ 3), p_ 2 122 (k_ 121), p_ 3 123 (.bin 3 0 (.t 120) (.t 122))]) (.cond (.t 123) .skip (.exit 8))) (.seq (.block 9 (g_ 6 [p_ 0 126 (m_ 9), p_ 1 127 (m_ 3), p_ 2 128 (m_ 17), p_ 3 129 (.ixs 4 (.t 127) (.t 128)), r_ 4 130 (.ld true 4 (.t 129)), c_ 5 131 28 [.t 126, .t 130]])) (g_ 3 [p_ 0 124 (m_ 17), p_ 1 125 (.bin 0 0 (.t 124) (i_ 1)), p_ 2 17 (m_ 125)]))) [(0, [.can 0 [3, 9, 15, 17]]), (8, [.can 0 [9, 15]])]))))) (.seq (.seq (g_ 1 [p_ 0 18 (.mv (i_ 0))]) (.block 10 (.loop [8, 9, 15, 18, 132, 133, 134, 135, 136, 137, 138, 139, 140, 141, 142, 143, 144, 145, 146, 147, 148, 149, 150, 151, 152] (.seq (.seq (g_ 7 [p_ 0 132 (m_ 18), p_ 1 133 (m_ 9), p_ 2 134 (n_ 133), p_ 3 135 (f_ 0 134), r_ 4 136 (l_ 135), p_ 5 137 (k_ 136), p_ 6 138 (.bin 3 0 (.t 132) (.t 137))]) (.cond (.t 138) .skip (.exit 10))) (.seq (.block 11 (.seq (g_ 10 [p_ 0 141 (m_ 9), p_ 1 142 (n_ 141), p_ 2 143 (f_ 0 142), r_ 3 144 (l_ 143), p_ 4 145 (m_ 18), p_ 5 146 (.ixs 1 (.t 144) (.t 145)), r_ 6 147 (l_ 146), c_ 7 148 14 [.t 147], p_ 8 149 (m_ 15), p_ 9 150 (.bin 3 2 (.t 148) (.t 149))]) (.cond (.t 150) (.seq (g_ 1 [p_ 0 8 (.mv (.c (.bool false)))]) .ret) .skip))) (g_ 3 [p_ 0 139 (m_ 18), p_ 1 140 (.bin 0 0 (.t 139) (i_ 1)), p_ 2 18 (m_ 140)])))))) (.seq (g_ 3 [p_ 0 151 (m_ 9), c_ 1 152 29 [.t 151], p_ 2 8 (m_ 152)]) .ret)))))))))))))
theorem ft_rollKeeps_ok : chkF Try.prog 6 ft_rollKeeps = true := by kernel_rfl
structure A_ka1 where
 h1 : Value
 l1 : List StepR
 h2 : Value
 l2 : List Int
 h3 : Value
 l3 : List StepR
 f : F1
 i : Int
structure R_ka1 where
 f : F1
def po_ka1 (p : A_ka1) (r : R_ka1) : Prop := FI1 r.f ∧ 0 ≤ r.f.cnt ∧ r.f.cnt ≤ 100
noncomputable def I_ka1 (p : A_ka1) : IL := ((.cons 10 (.sy (.int 0 p.i)) (.cons 9 (.ptr 0 0) (.cons 3 (.sy (.imm p.h3 4 StepR p.l3 encS)) (.cons 2 (.sy (.imm p.h2 1 Int p.l2 encZ)) (.cons 1 (.sy (.imm p.h1 4 StepR p.l1 encS)) .nil))))), (Fd1n p.f), 7)
noncomputable def out_ka1 (p : A_ka1) (K : KC) : Bool := allB fun r : R_ka1 => iP (po_ka1 p r) (K 2 (.cons 9 (.ptr 0 0) (.cons 3 (.sy (.imm p.h3 4 StepR p.l3 encS)) (.cons 2 (.sy (.imm p.h2 1 Int p.l2 encZ)) .nil))) (Fd1n r.f) 7) true
def pre_ka1 (p : A_ka1) : Prop := FI1 p.f ∧ 0 ≤ p.i ∧ p.i ≤ (p.l1.length : Int) ∧ p.l1.length ≤ 100 ∧ 0 ≤ p.f.cnt ∧ p.f.cnt ≤ p.i
theorem fin_ka1 {p : A_ka1} {K : KC} (hK : out_ka1 p K = true) (r : R_ka1) (h : po_ka1 p r) : K 2 (.cons 9 (.ptr 0 0) (.cons 3 (.sy (.imm p.h3 4 StepR p.l3 encS)) (.cons 2 (.sy (.imm p.h2 1 Int p.l2 encZ)) .nil))) (Fd1n r.f) 7 = true := ifB_use h (allB_ok hK r)
noncomputable def sp_ka1 (p : A_ka1) (K : KC) : Bool := must (prB (pre_ka1 p)) (out_ka1 p K)
def mu_ka1 (p : A_ka1) : Nat := ((p.l1.length : Int) - p.i).toNat
structure A_ka2 where
 h1 : Value
 l1 : List StepR
 h2 : Value
 l2 : List Int
 h3 : Value
 l3 : List StepR
 f : F2
 i : Int
structure R_ka2 where
 f : F2
def po_ka2 (p : A_ka2) (r : R_ka2) : Prop := FI2 r.f ∧ 0 ≤ r.f.cnt ∧ r.f.cnt ≤ 100
noncomputable def I_ka2 (p : A_ka2) : IL := ((.cons 10 (.sy (.int 0 p.i)) (.cons 9 (.ptr 0 0) (.cons 3 (.sy (.imm p.h3 4 StepR p.l3 encS)) (.cons 2 (.sy (.imm p.h2 1 Int p.l2 encZ)) (.cons 1 (.sy (.imm p.h1 4 StepR p.l1 encS)) .nil))))), (Fd2n p.f), 11)
noncomputable def out_ka2 (p : A_ka2) (K : KC) : Bool := allB fun r : R_ka2 => iP (po_ka2 p r) (K 2 (.cons 9 (.ptr 0 0) (.cons 3 (.sy (.imm p.h3 4 StepR p.l3 encS)) (.cons 2 (.sy (.imm p.h2 1 Int p.l2 encZ)) .nil))) (Fd2n r.f) 11) true
def pre_ka2 (p : A_ka2) : Prop := FI2 p.f ∧ 0 ≤ p.i ∧ p.i ≤ (p.l1.length : Int) ∧ p.l1.length ≤ 100 ∧ 0 ≤ p.f.cnt ∧ p.f.cnt ≤ p.i
theorem fin_ka2 {p : A_ka2} {K : KC} (hK : out_ka2 p K = true) (r : R_ka2) (h : po_ka2 p r) : K 2 (.cons 9 (.ptr 0 0) (.cons 3 (.sy (.imm p.h3 4 StepR p.l3 encS)) (.cons 2 (.sy (.imm p.h2 1 Int p.l2 encZ)) .nil))) (Fd2n r.f) 11 = true := ifB_use h (allB_ok hK r)
noncomputable def sp_ka2 (p : A_ka2) (K : KC) : Bool := must (prB (pre_ka2 p)) (out_ka2 p K)
def mu_ka2 (p : A_ka2) : Nat := ((p.l1.length : Int) - p.i).toNat
structure A_ka3 where
 h1 : Value
 l1 : List StepR
 h2 : Value
 l2 : List Int
 h3 : Value
 l3 : List StepR
 f : F3
 i : Int
structure R_ka3 where
 f : F3
def po_ka3 (p : A_ka3) (r : R_ka3) : Prop := FI3 r.f ∧ 0 ≤ r.f.cnt ∧ r.f.cnt ≤ 100
noncomputable def I_ka3 (p : A_ka3) : IL := ((.cons 10 (.sy (.int 0 p.i)) (.cons 9 (.ptr 0 0) (.cons 3 (.sy (.imm p.h3 4 StepR p.l3 encS)) (.cons 2 (.sy (.imm p.h2 1 Int p.l2 encZ)) (.cons 1 (.sy (.imm p.h1 4 StepR p.l1 encS)) .nil))))), (Fd3n p.f), 15)
noncomputable def out_ka3 (p : A_ka3) (K : KC) : Bool := allB fun r : R_ka3 => iP (po_ka3 p r) (K 2 (.cons 9 (.ptr 0 0) (.cons 3 (.sy (.imm p.h3 4 StepR p.l3 encS)) (.cons 2 (.sy (.imm p.h2 1 Int p.l2 encZ)) .nil))) (Fd3n r.f) 15) true
def pre_ka3 (p : A_ka3) : Prop := FI3 p.f ∧ 0 ≤ p.i ∧ p.i ≤ (p.l1.length : Int) ∧ p.l1.length ≤ 100 ∧ 0 ≤ p.f.cnt ∧ p.f.cnt ≤ p.i
theorem fin_ka3 {p : A_ka3} {K : KC} (hK : out_ka3 p K = true) (r : R_ka3) (h : po_ka3 p r) : K 2 (.cons 9 (.ptr 0 0) (.cons 3 (.sy (.imm p.h3 4 StepR p.l3 encS)) (.cons 2 (.sy (.imm p.h2 1 Int p.l2 encZ)) .nil))) (Fd3n r.f) 15 = true := ifB_use h (allB_ok hK r)
noncomputable def sp_ka3 (p : A_ka3) (K : KC) : Bool := must (prB (pre_ka3 p)) (out_ka3 p K)
def mu_ka3 (p : A_ka3) : Nat := ((p.l1.length : Int) - p.i).toNat
structure A_ka4 where
 h1 : Value
 l1 : List StepR
 h2 : Value
 l2 : List Int
 h3 : Value
 l3 : List StepR
 f : F4
 i : Int
structure R_ka4 where
 f : F4
def po_ka4 (p : A_ka4) (r : R_ka4) : Prop := FI4 r.f ∧ 0 ≤ r.f.cnt ∧ r.f.cnt ≤ 100
noncomputable def I_ka4 (p : A_ka4) : IL := ((.cons 10 (.sy (.int 0 p.i)) (.cons 9 (.ptr 0 0) (.cons 3 (.sy (.imm p.h3 4 StepR p.l3 encS)) (.cons 2 (.sy (.imm p.h2 1 Int p.l2 encZ)) (.cons 1 (.sy (.imm p.h1 4 StepR p.l1 encS)) .nil))))), (Fd4n p.f), 19)
noncomputable def out_ka4 (p : A_ka4) (K : KC) : Bool := allB fun r : R_ka4 => iP (po_ka4 p r) (K 2 (.cons 9 (.ptr 0 0) (.cons 3 (.sy (.imm p.h3 4 StepR p.l3 encS)) (.cons 2 (.sy (.imm p.h2 1 Int p.l2 encZ)) .nil))) (Fd4n r.f) 19) true
def pre_ka4 (p : A_ka4) : Prop := FI4 p.f ∧ 0 ≤ p.i ∧ p.i ≤ (p.l1.length : Int) ∧ p.l1.length ≤ 100 ∧ 0 ≤ p.f.cnt ∧ p.f.cnt ≤ p.i
theorem fin_ka4 {p : A_ka4} {K : KC} (hK : out_ka4 p K = true) (r : R_ka4) (h : po_ka4 p r) : K 2 (.cons 9 (.ptr 0 0) (.cons 3 (.sy (.imm p.h3 4 StepR p.l3 encS)) (.cons 2 (.sy (.imm p.h2 1 Int p.l2 encZ)) .nil))) (Fd4n r.f) 19 = true := ifB_use h (allB_ok hK r)
noncomputable def sp_ka4 (p : A_ka4) (K : KC) : Bool := must (prB (pre_ka4 p)) (out_ka4 p K)
def mu_ka4 (p : A_ka4) : Nat := ((p.l1.length : Int) - p.i).toNat
structure A_ka5 where
 h1 : Value
 l1 : List StepR
 h2 : Value
 l2 : List Int
 h3 : Value
 l3 : List StepR
 f : F5
 i : Int
structure R_ka5 where
 f : F5
def po_ka5 (p : A_ka5) (r : R_ka5) : Prop := FI5 r.f ∧ 0 ≤ r.f.cnt ∧ r.f.cnt ≤ 100
noncomputable def I_ka5 (p : A_ka5) : IL := ((.cons 10 (.sy (.int 0 p.i)) (.cons 9 (.ptr 0 0) (.cons 3 (.sy (.imm p.h3 4 StepR p.l3 encS)) (.cons 2 (.sy (.imm p.h2 1 Int p.l2 encZ)) (.cons 1 (.sy (.imm p.h1 4 StepR p.l1 encS)) .nil))))), (Fd5n p.f), 23)
noncomputable def out_ka5 (p : A_ka5) (K : KC) : Bool := allB fun r : R_ka5 => iP (po_ka5 p r) (K 2 (.cons 9 (.ptr 0 0) (.cons 3 (.sy (.imm p.h3 4 StepR p.l3 encS)) (.cons 2 (.sy (.imm p.h2 1 Int p.l2 encZ)) .nil))) (Fd5n r.f) 23) true
def pre_ka5 (p : A_ka5) : Prop := FI5 p.f ∧ 0 ≤ p.i ∧ p.i ≤ (p.l1.length : Int) ∧ p.l1.length ≤ 100 ∧ 0 ≤ p.f.cnt ∧ p.f.cnt ≤ p.i
theorem fin_ka5 {p : A_ka5} {K : KC} (hK : out_ka5 p K = true) (r : R_ka5) (h : po_ka5 p r) : K 2 (.cons 9 (.ptr 0 0) (.cons 3 (.sy (.imm p.h3 4 StepR p.l3 encS)) (.cons 2 (.sy (.imm p.h2 1 Int p.l2 encZ)) .nil))) (Fd5n r.f) 23 = true := ifB_use h (allB_ok hK r)
noncomputable def sp_ka5 (p : A_ka5) (K : KC) : Bool := must (prB (pre_ka5 p)) (out_ka5 p K)
def mu_ka5 (p : A_ka5) : Nat := ((p.l1.length : Int) - p.i).toNat
noncomputable def lpv_ka (S : SL) (M : T) (nx : Nat) (K : KC) : Bool := (Bool.rec (Bool.rec (Bool.rec (Bool.rec (Bool.rec false (exB fun p : A_ka5 => must (prB ((S, M, nx) = I_ka5 p)) (sp_ka5 p K)) (Nat.beq (nEl M 1) 5)) (exB fun p : A_ka4 => must (prB ((S, M, nx) = I_ka4 p)) (sp_ka4 p K)) (Nat.beq (nEl M 1) 4)) (exB fun p : A_ka3 => must (prB ((S, M, nx) = I_ka3 p)) (sp_ka3 p K)) (Nat.beq (nEl M 1) 3)) (exB fun p : A_ka2 => must (prB ((S, M, nx) = I_ka2 p)) (sp_ka2 p K)) (Nat.beq (nEl M 1) 2)) (exB fun p : A_ka1 => must (prB ((S, M, nx) = I_ka1 p)) (sp_ka1 p K)) (Nat.beq (nEl M 1) 1))
inductive A_ka where
 | v1 (p : A_ka1)
 | v2 (p : A_ka2)
 | v3 (p : A_ka3)
 | v4 (p : A_ka4)
 | v5 (p : A_ka5)
noncomputable def I_ka (q : A_ka) : IL := A_ka.casesOn q (fun p => I_ka1 p) (fun p => I_ka2 p) (fun p => I_ka3 p) (fun p => I_ka4 p) (fun p => I_ka5 p)
def mu_ka : A_ka → Nat
 | .v1 p => mu_ka1 p
 | .v2 p => mu_ka2 p
 | .v3 p => mu_ka3 p
 | .v4 p => mu_ka4 p
 | .v5 p => mu_ka5 p
noncomputable def sp_ka (q : A_ka) (K : KC) : Bool := A_ka.casesOn q (fun p => sp_ka1 p K) (fun p => sp_ka2 p K) (fun p => sp_ka3 p K) (fun p => sp_ka4 p K) (fun p => sp_ka5 p K)
noncomputable def kk_ka (n : Nat) (K : KC) : KC := fun e S M nx => Nat.casesOn e (exB fun q : A_ka => must (prB ((S, M, nx) = I_ka q ∧ mu_ka q < n)) (sp_ka q K)) (fun e2 => K (Nat.succ e2) S M nx)
theorem bk_ka1 {p q : A_ka1} {K : KC} {s : IL} (hm : mu_ka1 q < mu_ka1 p) (hp : pre_ka1 q) (hK : out_ka1 q K = true) (e : s = I_ka1 q) : (exB fun q => mP (s = I_ka q ∧ mu_ka q < mu_ka (.v1 p)) (sp_ka q K)) = true := exB_mk (.v1 q) (mustP ⟨e, hm⟩ (mustP hp hK))
theorem bk_ka2 {p q : A_ka2} {K : KC} {s : IL} (hm : mu_ka2 q < mu_ka2 p) (hp : pre_ka2 q) (hK : out_ka2 q K = true) (e : s = I_ka2 q) : (exB fun q => mP (s = I_ka q ∧ mu_ka q < mu_ka (.v2 p)) (sp_ka q K)) = true := exB_mk (.v2 q) (mustP ⟨e, hm⟩ (mustP hp hK))
theorem bk_ka3 {p q : A_ka3} {K : KC} {s : IL} (hm : mu_ka3 q < mu_ka3 p) (hp : pre_ka3 q) (hK : out_ka3 q K = true) (e : s = I_ka3 q) : (exB fun q => mP (s = I_ka q ∧ mu_ka q < mu_ka (.v3 p)) (sp_ka q K)) = true := exB_mk (.v3 q) (mustP ⟨e, hm⟩ (mustP hp hK))
theorem bk_ka4 {p q : A_ka4} {K : KC} {s : IL} (hm : mu_ka4 q < mu_ka4 p) (hp : pre_ka4 q) (hK : out_ka4 q K = true) (e : s = I_ka4 q) : (exB fun q => mP (s = I_ka q ∧ mu_ka q < mu_ka (.v4 p)) (sp_ka q K)) = true := exB_mk (.v4 q) (mustP ⟨e, hm⟩ (mustP hp hK))
theorem bk_ka5 {p q : A_ka5} {K : KC} {s : IL} (hm : mu_ka5 q < mu_ka5 p) (hp : pre_ka5 q) (hK : out_ka5 q K = true) (e : s = I_ka5 q) : (exB fun q => mP (s = I_ka q ∧ mu_ka q < mu_ka (.v5 p)) (sp_ka q K)) = true := exB_mk (.v5 q) (mustP ⟨e, hm⟩ (mustP hp hK))
structure A_kb1 where
 h2 : Value
 l2 : List Int
 h3 : Value
 l3 : List StepR
 f : F1
 b0 : Prop
 c : Int
 i : Int
structure R_kb1 where
 b0 : Prop
 c : Int
def po_kb1 (p : A_kb1) (r : R_kb1) : Prop := r.c = cntB [prB r.b0] ∧ 0 ≤ r.c ∧ r.c ≤ 1
noncomputable def I_kb1 (p : A_kb1) : IL := ((.cons 13 (.sy (.int 0 p.i)) (.cons 12 (.sy (.int 0 p.c)) (.cons 11 (.sl 1 0 1 (.ex 1)) (.cons 9 (.ptr 0 0) (.cons 3 (.sy (.imm p.h3 4 StepR p.l3 encS)) (.cons 2 (.sy (.imm p.h2 1 Int p.l2 encZ)) .nil)))))), (Fk1n p.f p.b0), 8)
noncomputable def out_kb1 (p : A_kb1) (K : KC) : Bool := allB fun r : R_kb1 => iP (po_kb1 p r) (K 4 (.cons 12 (.sy (.int 0 r.c)) (.cons 11 (.sl 1 0 1 (.ex 1)) (.cons 9 (.ptr 0 0) (.cons 3 (.sy (.imm p.h3 4 StepR p.l3 encS)) .nil)))) (Fk1n p.f r.b0) 8) true
def pre_kb1 (p : A_kb1) : Prop := p.c = cntB [prB p.b0] ∧ 0 ≤ p.i ∧ p.i ≤ (p.l2.length : Int) ∧ p.l2.length ≤ 20
theorem fin_kb1 {p : A_kb1} {K : KC} (hK : out_kb1 p K = true) (r : R_kb1) (h : po_kb1 p r) : K 4 (.cons 12 (.sy (.int 0 r.c)) (.cons 11 (.sl 1 0 1 (.ex 1)) (.cons 9 (.ptr 0 0) (.cons 3 (.sy (.imm p.h3 4 StepR p.l3 encS)) .nil)))) (Fk1n p.f r.b0) 8 = true := ifB_use h (allB_ok hK r)
noncomputable def sp_kb1 (p : A_kb1) (K : KC) : Bool := must (prB (pre_kb1 p)) (out_kb1 p K)
def mu_kb1 (p : A_kb1) : Nat := ((p.l2.length : Int) - p.i).toNat
structure A_kb2 where
 h2 : Value
 l2 : List Int
 h3 : Value
 l3 : List StepR
 f : F2
 b0 : Prop
 b1 : Prop
 c : Int
 i : Int
structure R_kb2 where
 b0 : Prop
 b1 : Prop
 c : Int
def po_kb2 (p : A_kb2) (r : R_kb2) : Prop := r.c = cntB [prB r.b0, prB r.b1] ∧ 0 ≤ r.c ∧ r.c ≤ 2
noncomputable def I_kb2 (p : A_kb2) : IL := ((.cons 13 (.sy (.int 0 p.i)) (.cons 12 (.sy (.int 0 p.c)) (.cons 11 (.sl 1 0 2 (.ex 2)) (.cons 9 (.ptr 0 0) (.cons 3 (.sy (.imm p.h3 4 StepR p.l3 encS)) (.cons 2 (.sy (.imm p.h2 1 Int p.l2 encZ)) .nil)))))), (Fk2n p.f p.b0 p.b1), 12)
noncomputable def out_kb2 (p : A_kb2) (K : KC) : Bool := allB fun r : R_kb2 => iP (po_kb2 p r) (K 4 (.cons 12 (.sy (.int 0 r.c)) (.cons 11 (.sl 1 0 2 (.ex 2)) (.cons 9 (.ptr 0 0) (.cons 3 (.sy (.imm p.h3 4 StepR p.l3 encS)) .nil)))) (Fk2n p.f r.b0 r.b1) 12) true
def pre_kb2 (p : A_kb2) : Prop := p.c = cntB [prB p.b0, prB p.b1] ∧ 0 ≤ p.i ∧ p.i ≤ (p.l2.length : Int) ∧ p.l2.length ≤ 20
theorem fin_kb2 {p : A_kb2} {K : KC} (hK : out_kb2 p K = true) (r : R_kb2) (h : po_kb2 p r) : K 4 (.cons 12 (.sy (.int 0 r.c)) (.cons 11 (.sl 1 0 2 (.ex 2)) (.cons 9 (.ptr 0 0) (.cons 3 (.sy (.imm p.h3 4 StepR p.l3 encS)) .nil)))) (Fk2n p.f r.b0 r.b1) 12 = true := ifB_use h (allB_ok hK r)
noncomputable def sp_kb2 (p : A_kb2) (K : KC) : Bool := must (prB (pre_kb2 p)) (out_kb2 p K)
def mu_kb2 (p : A_kb2) : Nat := ((p.l2.length : Int) - p.i).toNat
structure A_kb3 where
 h2 : Value
 l2 : List Int
 h3 : Value
 l3 : List StepR
 f : F3
 b0 : Prop
 b1 : Prop
 b2 : Prop
 c : Int
 i : Int
structure R_kb3 where
 b0 : Prop
 b1 : Prop
 b2 : Prop
 c : Int
def po_kb3 (p : A_kb3) (r : R_kb3) : Prop := r.c = cntB [prB r.b0, prB r.b1, prB r.b2] ∧ 0 ≤ r.c ∧ r.c ≤ 3
noncomputable def I_kb3 (p : A_kb3) : IL := ((.cons 13 (.sy (.int 0 p.i)) (.cons 12 (.sy (.int 0 p.c)) (.cons 11 (.sl 1 0 3 (.ex 3)) (.cons 9 (.ptr 0 0) (.cons 3 (.sy (.imm p.h3 4 StepR p.l3 encS)) (.cons 2 (.sy (.imm p.h2 1 Int p.l2 encZ)) .nil)))))), (Fk3n p.f p.b0 p.b1 p.b2), 16)
noncomputable def out_kb3 (p : A_kb3) (K : KC) : Bool := allB fun r : R_kb3 => iP (po_kb3 p r) (K 4 (.cons 12 (.sy (.int 0 r.c)) (.cons 11 (.sl 1 0 3 (.ex 3)) (.cons 9 (.ptr 0 0) (.cons 3 (.sy (.imm p.h3 4 StepR p.l3 encS)) .nil)))) (Fk3n p.f r.b0 r.b1 r.b2) 16) true
def pre_kb3 (p : A_kb3) : Prop := p.c = cntB [prB p.b0, prB p.b1, prB p.b2] ∧ 0 ≤ p.i ∧ p.i ≤ (p.l2.length : Int) ∧ p.l2.length ≤ 20
theorem fin_kb3 {p : A_kb3} {K : KC} (hK : out_kb3 p K = true) (r : R_kb3) (h : po_kb3 p r) : K 4 (.cons 12 (.sy (.int 0 r.c)) (.cons 11 (.sl 1 0 3 (.ex 3)) (.cons 9 (.ptr 0 0) (.cons 3 (.sy (.imm p.h3 4 StepR p.l3 encS)) .nil)))) (Fk3n p.f r.b0 r.b1 r.b2) 16 = true := ifB_use h (allB_ok hK r)
noncomputable def sp_kb3 (p : A_kb3) (K : KC) : Bool := must (prB (pre_kb3 p)) (out_kb3 p K)
def mu_kb3 (p : A_kb3) : Nat := ((p.l2.length : Int) - p.i).toNat
structure A_kb4 where
 h2 : Value
 l2 : List Int
 h3 : Value
 l3 : List StepR
 f : F4
 b0 : Prop
 b1 : Prop
 b2 : Prop
 b3 : Prop
 c : Int
 i : Int
structure R_kb4 where
 b0 : Prop
 b1 : Prop
 b2 : Prop
 b3 : Prop
 c : Int
def po_kb4 (p : A_kb4) (r : R_kb4) : Prop := r.c = cntB [prB r.b0, prB r.b1, prB r.b2, prB r.b3] ∧ 0 ≤ r.c ∧ r.c ≤ 4
noncomputable def I_kb4 (p : A_kb4) : IL := ((.cons 13 (.sy (.int 0 p.i)) (.cons 12 (.sy (.int 0 p.c)) (.cons 11 (.sl 1 0 4 (.ex 4)) (.cons 9 (.ptr 0 0) (.cons 3 (.sy (.imm p.h3 4 StepR p.l3 encS)) (.cons 2 (.sy (.imm p.h2 1 Int p.l2 encZ)) .nil)))))), (Fk4n p.f p.b0 p.b1 p.b2 p.b3), 20)
noncomputable def out_kb4 (p : A_kb4) (K : KC) : Bool := allB fun r : R_kb4 => iP (po_kb4 p r) (K 4 (.cons 12 (.sy (.int 0 r.c)) (.cons 11 (.sl 1 0 4 (.ex 4)) (.cons 9 (.ptr 0 0) (.cons 3 (.sy (.imm p.h3 4 StepR p.l3 encS)) .nil)))) (Fk4n p.f r.b0 r.b1 r.b2 r.b3) 20) true
def pre_kb4 (p : A_kb4) : Prop := p.c = cntB [prB p.b0, prB p.b1, prB p.b2, prB p.b3] ∧ 0 ≤ p.i ∧ p.i ≤ (p.l2.length : Int) ∧ p.l2.length ≤ 20
theorem fin_kb4 {p : A_kb4} {K : KC} (hK : out_kb4 p K = true) (r : R_kb4) (h : po_kb4 p r) : K 4 (.cons 12 (.sy (.int 0 r.c)) (.cons 11 (.sl 1 0 4 (.ex 4)) (.cons 9 (.ptr 0 0) (.cons 3 (.sy (.imm p.h3 4 StepR p.l3 encS)) .nil)))) (Fk4n p.f r.b0 r.b1 r.b2 r.b3) 20 = true := ifB_use h (allB_ok hK r)
noncomputable def sp_kb4 (p : A_kb4) (K : KC) : Bool := must (prB (pre_kb4 p)) (out_kb4 p K)
def mu_kb4 (p : A_kb4) : Nat := ((p.l2.length : Int) - p.i).toNat
structure A_kb5 where
 h2 : Value
 l2 : List Int
 h3 : Value
 l3 : List StepR
 f : F5
 b0 : Prop
 b1 : Prop
 b2 : Prop
 b3 : Prop
 b4 : Prop
 c : Int
 i : Int
structure R_kb5 where
 b0 : Prop
 b1 : Prop
 b2 : Prop
 b3 : Prop
 b4 : Prop
 c : Int
def po_kb5 (p : A_kb5) (r : R_kb5) : Prop := r.c = cntB [prB r.b0, prB r.b1, prB r.b2, prB r.b3, prB r.b4] ∧ 0 ≤ r.c ∧ r.c ≤ 5
noncomputable def I_kb5 (p : A_kb5) : IL := ((.cons 13 (.sy (.int 0 p.i)) (.cons 12 (.sy (.int 0 p.c)) (.cons 11 (.sl 1 0 5 (.ex 5)) (.cons 9 (.ptr 0 0) (.cons 3 (.sy (.imm p.h3 4 StepR p.l3 encS)) (.cons 2 (.sy (.imm p.h2 1 Int p.l2 encZ)) .nil)))))), (Fk5n p.f p.b0 p.b1 p.b2 p.b3 p.b4), 24)
noncomputable def out_kb5 (p : A_kb5) (K : KC) : Bool := allB fun r : R_kb5 => iP (po_kb5 p r) (K 4 (.cons 12 (.sy (.int 0 r.c)) (.cons 11 (.sl 1 0 5 (.ex 5)) (.cons 9 (.ptr 0 0) (.cons 3 (.sy (.imm p.h3 4 StepR p.l3 encS)) .nil)))) (Fk5n p.f r.b0 r.b1 r.b2 r.b3 r.b4) 24) true
def pre_kb5 (p : A_kb5) : Prop := p.c = cntB [prB p.b0, prB p.b1, prB p.b2, prB p.b3, prB p.b4] ∧ 0 ≤ p.i ∧ p.i ≤ (p.l2.length : Int) ∧ p.l2.length ≤ 20
theorem fin_kb5 {p : A_kb5} {K : KC} (hK : out_kb5 p K = true) (r : R_kb5) (h : po_kb5 p r) : K 4 (.cons 12 (.sy (.int 0 r.c)) (.cons 11 (.sl 1 0 5 (.ex 5)) (.cons 9 (.ptr 0 0) (.cons 3 (.sy (.imm p.h3 4 StepR p.l3 encS)) .nil)))) (Fk5n p.f r.b0 r.b1 r.b2 r.b3 r.b4) 24 = true := ifB_use h (allB_ok hK r)
noncomputable def sp_kb5 (p : A_kb5) (K : KC) : Bool := must (prB (pre_kb5 p)) (out_kb5 p K)
def mu_kb5 (p : A_kb5) : Nat := ((p.l2.length : Int) - p.i).toNat
noncomputable def lpv_kb (S : SL) (M : T) (nx : Nat) (K : KC) : Bool := (Bool.rec (Bool.rec (Bool.rec (Bool.rec (Bool.rec false (exB fun p : A_kb5 => must (prB ((S, M, nx) = I_kb5 p)) (sp_kb5 p K)) (Nat.beq (nEl M 1) 5)) (exB fun p : A_kb4 => must (prB ((S, M, nx) = I_kb4 p)) (sp_kb4 p K)) (Nat.beq (nEl M 1) 4)) (exB fun p : A_kb3 => must (prB ((S, M, nx) = I_kb3 p)) (sp_kb3 p K)) (Nat.beq (nEl M 1) 3)) (exB fun p : A_kb2 => must (prB ((S, M, nx) = I_kb2 p)) (sp_kb2 p K)) (Nat.beq (nEl M 1) 2)) (exB fun p : A_kb1 => must (prB ((S, M, nx) = I_kb1 p)) (sp_kb1 p K)) (Nat.beq (nEl M 1) 1))
inductive A_kb where
 | v1 (p : A_kb1)
 | v2 (p : A_kb2)
 | v3 (p : A_kb3)
 | v4 (p : A_kb4)
 | v5 (p : A_kb5)
noncomputable def I_kb (q : A_kb) : IL := A_kb.casesOn q (fun p => I_kb1 p) (fun p => I_kb2 p) (fun p => I_kb3 p) (fun p => I_kb4 p) (fun p => I_kb5 p)
def mu_kb : A_kb → Nat
 | .v1 p => mu_kb1 p
 | .v2 p => mu_kb2 p
 | .v3 p => mu_kb3 p
 | .v4 p => mu_kb4 p
 | .v5 p => mu_kb5 p
noncomputable def sp_kb (q : A_kb) (K : KC) : Bool := A_kb.casesOn q (fun p => sp_kb1 p K) (fun p => sp_kb2 p K) (fun p => sp_kb3 p K) (fun p => sp_kb4 p K) (fun p => sp_kb5 p K)
noncomputable def kk_kb (n : Nat) (K : KC) : KC := fun e S M nx => Nat.casesOn e (exB fun q : A_kb => must (prB ((S, M, nx) = I_kb q ∧ mu_kb q < n)) (sp_kb q K)) (fun e2 => K (Nat.succ e2) S M nx)
theorem bk_kb1 {p q : A_kb1} {K : KC} {s : IL} (hm : mu_kb1 q < mu_kb1 p) (hp : pre_kb1 q) (hK : out_kb1 q K = true) (e : s = I_kb1 q) : (exB fun q => mP (s = I_kb q ∧ mu_kb q < mu_kb (.v1 p)) (sp_kb q K)) = true := exB_mk (.v1 q) (mustP ⟨e, hm⟩ (mustP hp hK))
theorem bk_kb2 {p q : A_kb2} {K : KC} {s : IL} (hm : mu_kb2 q < mu_kb2 p) (hp : pre_kb2 q) (hK : out_kb2 q K = true) (e : s = I_kb2 q) : (exB fun q => mP (s = I_kb q ∧ mu_kb q < mu_kb (.v2 p)) (sp_kb q K)) = true := exB_mk (.v2 q) (mustP ⟨e, hm⟩ (mustP hp hK))
theorem bk_kb3 {p q : A_kb3} {K : KC} {s : IL} (hm : mu_kb3 q < mu_kb3 p) (hp : pre_kb3 q) (hK : out_kb3 q K = true) (e : s = I_kb3 q) : (exB fun q => mP (s = I_kb q ∧ mu_kb q < mu_kb (.v3 p)) (sp_kb q K)) = true := exB_mk (.v3 q) (mustP ⟨e, hm⟩ (mustP hp hK))
theorem bk_kb4 {p q : A_kb4} {K : KC} {s : IL} (hm : mu_kb4 q < mu_kb4 p) (hp : pre_kb4 q) (hK : out_kb4 q K = true) (e : s = I_kb4 q) : (exB fun q => mP (s = I_kb q ∧ mu_kb q < mu_kb (.v4 p)) (sp_kb q K)) = true := exB_mk (.v4 q) (mustP ⟨e, hm⟩ (mustP hp hK))
theorem bk_kb5 {p q : A_kb5} {K : KC} {s : IL} (hm : mu_kb5 q < mu_kb5 p) (hp : pre_kb5 q) (hK : out_kb5 q K = true) (e : s = I_kb5 q) : (exB fun q => mP (s = I_kb q ∧ mu_kb q < mu_kb (.v5 p)) (sp_kb q K)) = true := exB_mk (.v5 q) (mustP ⟨e, hm⟩ (mustP hp hK))
structure A_kc1 where
 h3 : Value
 l3 : List StepR
 f : F1
 b0 : Prop
 L : Int
 i : Int
structure R_kc1 where
 f : F1
 L : Int
def po_kc1 (p : A_kc1) (r : R_kc1) : Prop := FI1 r.f ∧ 0 ≤ r.f.cnt ∧ r.f.cnt ≤ 100 ∧ Held [r.f.s0] r.L
noncomputable def I_kc1 (p : A_kc1) : IL := ((.cons 16 (.sy (.int 0 p.i)) (.cons 15 (.sy (.int 0 p.L)) (.cons 11 (.sl 1 0 1 (.ex 1)) (.cons 9 (.ptr 0 0) (.cons 3 (.sy (.imm p.h3 4 StepR p.l3 encS)) .nil))))), (Fk1n p.f p.b0), 8)
noncomputable def out_kc1 (p : A_kc1) (K : KC) : Bool := allB fun r : R_kc1 => iP (po_kc1 p r) (K 6 (.cons 15 (.sy (.int 0 r.L)) (.cons 9 (.ptr 0 0) (.cons 3 (.sy (.imm p.h3 4 StepR p.l3 encS)) .nil))) (Fd1n r.f) 7) true
def pre_kc1 (p : A_kc1) : Prop := FI1 p.f ∧ 0 ≤ p.f.cnt ∧ p.f.cnt ≤ 100 ∧ 1 < 2 * cntB [prB p.b0] ∧ 0 ≤ p.i ∧ p.i ≤ 1 ∧ ShutTo [p.f.s0] [prB p.b0] p.i p.L
theorem fin_kc1 {p : A_kc1} {K : KC} (hK : out_kc1 p K = true) (r : R_kc1) (h : po_kc1 p r) : K 6 (.cons 15 (.sy (.int 0 r.L)) (.cons 9 (.ptr 0 0) (.cons 3 (.sy (.imm p.h3 4 StepR p.l3 encS)) .nil))) (Fd1n r.f) 7 = true := ifB_use h (allB_ok hK r)
noncomputable def sp_kc1 (p : A_kc1) (K : KC) : Bool := must (prB (pre_kc1 p)) (out_kc1 p K)
def mu_kc1 (p : A_kc1) : Nat := (1 - p.i).toNat
structure A_kc2 where
 h3 : Value
 l3 : List StepR
 f : F2
 b0 : Prop
 b1 : Prop
 L : Int
 i : Int
structure R_kc2 where
 f : F2
 L : Int
def po_kc2 (p : A_kc2) (r : R_kc2) : Prop := FI2 r.f ∧ 0 ≤ r.f.cnt ∧ r.f.cnt ≤ 100 ∧ Held [r.f.s0, r.f.s1] r.L
noncomputable def I_kc2 (p : A_kc2) : IL := ((.cons 16 (.sy (.int 0 p.i)) (.cons 15 (.sy (.int 0 p.L)) (.cons 11 (.sl 1 0 2 (.ex 2)) (.cons 9 (.ptr 0 0) (.cons 3 (.sy (.imm p.h3 4 StepR p.l3 encS)) .nil))))), (Fk2n p.f p.b0 p.b1), 12)
noncomputable def out_kc2 (p : A_kc2) (K : KC) : Bool := allB fun r : R_kc2 => iP (po_kc2 p r) (K 6 (.cons 15 (.sy (.int 0 r.L)) (.cons 9 (.ptr 0 0) (.cons 3 (.sy (.imm p.h3 4 StepR p.l3 encS)) .nil))) (Fd2n r.f) 11) true
def pre_kc2 (p : A_kc2) : Prop := FI2 p.f ∧ 0 ≤ p.f.cnt ∧ p.f.cnt ≤ 100 ∧ 2 < 2 * cntB [prB p.b0, prB p.b1] ∧ 0 ≤ p.i ∧ p.i ≤ 2 ∧ ShutTo [p.f.s0, p.f.s1] [prB p.b0, prB p.b1] p.i p.L
theorem fin_kc2 {p : A_kc2} {K : KC} (hK : out_kc2 p K = true) (r : R_kc2) (h : po_kc2 p r) : K 6 (.cons 15 (.sy (.int 0 r.L)) (.cons 9 (.ptr 0 0) (.cons 3 (.sy (.imm p.h3 4 StepR p.l3 encS)) .nil))) (Fd2n r.f) 11 = true := ifB_use h (allB_ok hK r)
noncomputable def sp_kc2 (p : A_kc2) (K : KC) : Bool := must (prB (pre_kc2 p)) (out_kc2 p K)
def mu_kc2 (p : A_kc2) : Nat := (2 - p.i).toNat
structure A_kc3 where
 h3 : Value
 l3 : List StepR
 f : F3
 b0 : Prop
 b1 : Prop
 b2 : Prop
 L : Int
 i : Int
structure R_kc3 where
 f : F3
 L : Int
def po_kc3 (p : A_kc3) (r : R_kc3) : Prop := FI3 r.f ∧ 0 ≤ r.f.cnt ∧ r.f.cnt ≤ 100 ∧ Held [r.f.s0, r.f.s1, r.f.s2] r.L
noncomputable def I_kc3 (p : A_kc3) : IL := ((.cons 16 (.sy (.int 0 p.i)) (.cons 15 (.sy (.int 0 p.L)) (.cons 11 (.sl 1 0 3 (.ex 3)) (.cons 9 (.ptr 0 0) (.cons 3 (.sy (.imm p.h3 4 StepR p.l3 encS)) .nil))))), (Fk3n p.f p.b0 p.b1 p.b2), 16)
noncomputable def out_kc3 (p : A_kc3) (K : KC) : Bool := allB fun r : R_kc3 => iP (po_kc3 p r) (K 6 (.cons 15 (.sy (.int 0 r.L)) (.cons 9 (.ptr 0 0) (.cons 3 (.sy (.imm p.h3 4 StepR p.l3 encS)) .nil))) (Fd3n r.f) 15) true
def pre_kc3 (p : A_kc3) : Prop := FI3 p.f ∧ 0 ≤ p.f.cnt ∧ p.f.cnt ≤ 100 ∧ 3 < 2 * cntB [prB p.b0, prB p.b1, prB p.b2] ∧ 0 ≤ p.i ∧ p.i ≤ 3 ∧ ShutTo [p.f.s0, p.f.s1, p.f.s2] [prB p.b0, prB p.b1, prB p.b2] p.i p.L
theorem fin_kc3 {p : A_kc3} {K : KC} (hK : out_kc3 p K = true) (r : R_kc3) (h : po_kc3 p r) : K 6 (.cons 15 (.sy (.int 0 r.L)) (.cons 9 (.ptr 0 0) (.cons 3 (.sy (.imm p.h3 4 StepR p.l3 encS)) .nil))) (Fd3n r.f) 15 = true := ifB_use h (allB_ok hK r)
noncomputable def sp_kc3 (p : A_kc3) (K : KC) : Bool := must (prB (pre_kc3 p)) (out_kc3 p K)
def mu_kc3 (p : A_kc3) : Nat := (3 - p.i).toNat
structure A_kc4 where
 h3 : Value
 l3 : List StepR
 f : F4
 b0 : Prop
 b1 : Prop
 b2 : Prop
 b3 : Prop
 L : Int
 i : Int
structure R_kc4 where
 f : F4
 L : Int
def po_kc4 (p : A_kc4) (r : R_kc4) : Prop := FI4 r.f ∧ 0 ≤ r.f.cnt ∧ r.f.cnt ≤ 100 ∧ Held [r.f.s0, r.f.s1, r.f.s2, r.f.s3] r.L
noncomputable def I_kc4 (p : A_kc4) : IL := ((.cons 16 (.sy (.int 0 p.i)) (.cons 15 (.sy (.int 0 p.L)) (.cons 11 (.sl 1 0 4 (.ex 4)) (.cons 9 (.ptr 0 0) (.cons 3 (.sy (.imm p.h3 4 StepR p.l3 encS)) .nil))))), (Fk4n p.f p.b0 p.b1 p.b2 p.b3), 20)
noncomputable def out_kc4 (p : A_kc4) (K : KC) : Bool := allB fun r : R_kc4 => iP (po_kc4 p r) (K 6 (.cons 15 (.sy (.int 0 r.L)) (.cons 9 (.ptr 0 0) (.cons 3 (.sy (.imm p.h3 4 StepR p.l3 encS)) .nil))) (Fd4n r.f) 19) true
def pre_kc4 (p : A_kc4) : Prop := FI4 p.f ∧ 0 ≤ p.f.cnt ∧ p.f.cnt ≤ 100 ∧ 4 < 2 * cntB [prB p.b0, prB p.b1, prB p.b2, prB p.b3] ∧ 0 ≤ p.i ∧ p.i ≤ 4 ∧ ShutTo [p.f.s0, p.f.s1, p.f.s2, p.f.s3] [prB p.b0, prB p.b1, prB p.b2, prB p.b3] p.i p.L
theorem fin_kc4 {p : A_kc4} {K : KC} (hK : out_kc4 p K = true) (r : R_kc4) (h : po_kc4 p r) : K 6 (.cons 15 (.sy (.int 0 r.L)) (.cons 9 (.ptr 0 0) (.cons 3 (.sy (.imm p.h3 4 StepR p.l3 encS)) .nil))) (Fd4n r.f) 19 = true := ifB_use h (allB_ok hK r)
noncomputable def sp_kc4 (p : A_kc4) (K : KC) : Bool := must (prB (pre_kc4 p)) (out_kc4 p K)
def mu_kc4 (p : A_kc4) : Nat := (4 - p.i).toNat
structure A_kc5 where
 h3 : Value
 l3 : List StepR
 f : F5
 b0 : Prop
 b1 : Prop
 b2 : Prop
 b3 : Prop
 b4 : Prop
 L : Int
 i : Int
structure R_kc5 where
 f : F5
 L : Int
def po_kc5 (p : A_kc5) (r : R_kc5) : Prop := FI5 r.f ∧ 0 ≤ r.f.cnt ∧ r.f.cnt ≤ 100 ∧ Held [r.f.s0, r.f.s1, r.f.s2, r.f.s3, r.f.s4] r.L
noncomputable def I_kc5 (p : A_kc5) : IL := ((.cons 16 (.sy (.int 0 p.i)) (.cons 15 (.sy (.int 0 p.L)) (.cons 11 (.sl 1 0 5 (.ex 5)) (.cons 9 (.ptr 0 0) (.cons 3 (.sy (.imm p.h3 4 StepR p.l3 encS)) .nil))))), (Fk5n p.f p.b0 p.b1 p.b2 p.b3 p.b4), 24)
noncomputable def out_kc5 (p : A_kc5) (K : KC) : Bool := allB fun r : R_kc5 => iP (po_kc5 p r) (K 6 (.cons 15 (.sy (.int 0 r.L)) (.cons 9 (.ptr 0 0) (.cons 3 (.sy (.imm p.h3 4 StepR p.l3 encS)) .nil))) (Fd5n r.f) 23) true
def pre_kc5 (p : A_kc5) : Prop := FI5 p.f ∧ 0 ≤ p.f.cnt ∧ p.f.cnt ≤ 100 ∧ 5 < 2 * cntB [prB p.b0, prB p.b1, prB p.b2, prB p.b3, prB p.b4] ∧ 0 ≤ p.i ∧ p.i ≤ 5 ∧ ShutTo [p.f.s0, p.f.s1, p.f.s2, p.f.s3, p.f.s4] [prB p.b0, prB p.b1, prB p.b2, prB p.b3, prB p.b4] p.i p.L
theorem fin_kc5 {p : A_kc5} {K : KC} (hK : out_kc5 p K = true) (r : R_kc5) (h : po_kc5 p r) : K 6 (.cons 15 (.sy (.int 0 r.L)) (.cons 9 (.ptr 0 0) (.cons 3 (.sy (.imm p.h3 4 StepR p.l3 encS)) .nil))) (Fd5n r.f) 23 = true := ifB_use h (allB_ok hK r)
noncomputable def sp_kc5 (p : A_kc5) (K : KC) : Bool := must (prB (pre_kc5 p)) (out_kc5 p K)
def mu_kc5 (p : A_kc5) : Nat := (5 - p.i).toNat
noncomputable def lpv_kc (S : SL) (M : T) (nx : Nat) (K : KC) : Bool := (Bool.rec (Bool.rec (Bool.rec (Bool.rec (Bool.rec false (exB fun p : A_kc5 => must (prB ((S, M, nx) = I_kc5 p)) (sp_kc5 p K)) (Nat.beq (nEl M 1) 5)) (exB fun p : A_kc4 => must (prB ((S, M, nx) = I_kc4 p)) (sp_kc4 p K)) (Nat.beq (nEl M 1) 4)) (exB fun p : A_kc3 => must (prB ((S, M, nx) = I_kc3 p)) (sp_kc3 p K)) (Nat.beq (nEl M 1) 3)) (exB fun p : A_kc2 => must (prB ((S, M, nx) = I_kc2 p)) (sp_kc2 p K)) (Nat.beq (nEl M 1) 2)) (exB fun p : A_kc1 => must (prB ((S, M, nx) = I_kc1 p)) (sp_kc1 p K)) (Nat.beq (nEl M 1) 1))
inductive A_kc where
 | v1 (p : A_kc1)
 | v2 (p : A_kc2)
 | v3 (p : A_kc3)
 | v4 (p : A_kc4)
 | v5 (p : A_kc5)
noncomputable def I_kc (q : A_kc) : IL := A_kc.casesOn q (fun p => I_kc1 p) (fun p => I_kc2 p) (fun p => I_kc3 p) (fun p => I_kc4 p) (fun p => I_kc5 p)
def mu_kc : A_kc → Nat
 | .v1 p => mu_kc1 p
 | .v2 p => mu_kc2 p
 | .v3 p => mu_kc3 p
 | .v4 p => mu_kc4 p
 | .v5 p => mu_kc5 p
noncomputable def sp_kc (q : A_kc) (K : KC) : Bool := A_kc.casesOn q (fun p => sp_kc1 p K) (fun p => sp_kc2 p K) (fun p => sp_kc3 p K) (fun p => sp_kc4 p K) (fun p => sp_kc5 p K)
noncomputable def kk_kc (n : Nat) (K : KC) : KC := fun e S M nx => Nat.casesOn e (exB fun q : A_kc => must (prB ((S, M, nx) = I_kc q ∧ mu_kc q < n)) (sp_kc q K)) (fun e2 => K (Nat.succ e2) S M nx)
theorem bk_kc1 {p q : A_kc1} {K : KC} {s : IL} (hm : mu_kc1 q < mu_kc1 p) (hp : pre_kc1 q) (hK : out_kc1 q K = true) (e : s = I_kc1 q) : (exB fun q => mP (s = I_kc q ∧ mu_kc q < mu_kc (.v1 p)) (sp_kc q K)) = true := exB_mk (.v1 q) (mustP ⟨e, hm⟩ (mustP hp hK))
theorem bk_kc2 {p q : A_kc2} {K : KC} {s : IL} (hm : mu_kc2 q < mu_kc2 p) (hp : pre_kc2 q) (hK : out_kc2 q K = true) (e : s = I_kc2 q) : (exB fun q => mP (s = I_kc q ∧ mu_kc q < mu_kc (.v2 p)) (sp_kc q K)) = true := exB_mk (.v2 q) (mustP ⟨e, hm⟩ (mustP hp hK))
theorem bk_kc3 {p q : A_kc3} {K : KC} {s : IL} (hm : mu_kc3 q < mu_kc3 p) (hp : pre_kc3 q) (hK : out_kc3 q K = true) (e : s = I_kc3 q) : (exB fun q => mP (s = I_kc q ∧ mu_kc q < mu_kc (.v3 p)) (sp_kc q K)) = true := exB_mk (.v3 q) (mustP ⟨e, hm⟩ (mustP hp hK))
theorem bk_kc4 {p q : A_kc4} {K : KC} {s : IL} (hm : mu_kc4 q < mu_kc4 p) (hp : pre_kc4 q) (hK : out_kc4 q K = true) (e : s = I_kc4 q) : (exB fun q => mP (s = I_kc q ∧ mu_kc q < mu_kc (.v4 p)) (sp_kc q K)) = true := exB_mk (.v4 q) (mustP ⟨e, hm⟩ (mustP hp hK))
theorem bk_kc5 {p q : A_kc5} {K : KC} {s : IL} (hm : mu_kc5 q < mu_kc5 p) (hp : pre_kc5 q) (hK : out_kc5 q K = true) (e : s = I_kc5 q) : (exB fun q => mP (s = I_kc q ∧ mu_kc q < mu_kc (.v5 p)) (sp_kc q K)) = true := exB_mk (.v5 q) (mustP ⟨e, hm⟩ (mustP hp hK))
structure A_kd1 where
 h3 : Value
 l3 : List StepR
 f : F1
 L : Int
 i : Int
structure R_kd1 where
 f : F1
def po_kd1 (p : A_kd1) (r : R_kd1) : Prop := FI1 r.f ∧ r.f.s0.com ≤ p.L
noncomputable def I_kd1 (p : A_kd1) : IL := ((.cons 17 (.sy (.int 0 p.i)) (.cons 15 (.sy (.int 0 p.L)) (.cons 9 (.ptr 0 0) (.cons 3 (.sy (.imm p.h3 4 StepR p.l3 encS)) .nil)))), (Fd1n p.f), 7)
noncomputable def out_kd1 (p : A_kd1) (K : KC) : Bool := allB fun r : R_kd1 => iP (po_kd1 p r) (K 8 (.cons 15 (.sy (.int 0 p.L)) (.cons 9 (.ptr 0 0) .nil)) (Fd1n r.f) 7) true
def pre_kd1 (p : A_kd1) : Prop := FI1 p.f ∧ 0 ≤ p.i ∧ p.i ≤ (p.l3.length : Int) ∧ p.l3.length ≤ 100 ∧ 0 ≤ p.f.cnt ∧ p.f.cnt ≤ 100 + p.i ∧ Held [p.f.s0] p.L
theorem fin_kd1 {p : A_kd1} {K : KC} (hK : out_kd1 p K = true) (r : R_kd1) (h : po_kd1 p r) : K 8 (.cons 15 (.sy (.int 0 p.L)) (.cons 9 (.ptr 0 0) .nil)) (Fd1n r.f) 7 = true := ifB_use h (allB_ok hK r)
noncomputable def sp_kd1 (p : A_kd1) (K : KC) : Bool := must (prB (pre_kd1 p)) (out_kd1 p K)
def mu_kd1 (p : A_kd1) : Nat := ((p.l3.length : Int) - p.i).toNat
structure A_kd2 where
 h3 : Value
 l3 : List StepR
 f : F2
 L : Int
 i : Int
structure R_kd2 where
 f : F2
def po_kd2 (p : A_kd2) (r : R_kd2) : Prop := FI2 r.f ∧ r.f.s0.com ≤ p.L ∧ r.f.s1.com ≤ p.L
noncomputable def I_kd2 (p : A_kd2) : IL := ((.cons 17 (.sy (.int 0 p.i)) (.cons 15 (.sy (.int 0 p.L)) (.cons 9 (.ptr 0 0) (.cons 3 (.sy (.imm p.h3 4 StepR p.l3 encS)) .nil)))), (Fd2n p.f), 11)
noncomputable def out_kd2 (p : A_kd2) (K : KC) : Bool := allB fun r : R_kd2 => iP (po_kd2 p r) (K 8 (.cons 15 (.sy (.int 0 p.L)) (.cons 9 (.ptr 0 0) .nil)) (Fd2n r.f) 11) true
def pre_kd2 (p : A_kd2) : Prop := FI2 p.f ∧ 0 ≤ p.i ∧ p.i ≤ (p.l3.length : Int) ∧ p.l3.length ≤ 100 ∧ 0 ≤ p.f.cnt ∧ p.f.cnt ≤ 100 + p.i ∧ Held [p.f.s0, p.f.s1] p.L
theorem fin_kd2 {p : A_kd2} {K : KC} (hK : out_kd2 p K = true) (r : R_kd2) (h : po_kd2 p r) : K 8 (.cons 15 (.sy (.int 0 p.L)) (.cons 9 (.ptr 0 0) .nil)) (Fd2n r.f) 11 = true := ifB_use h (allB_ok hK r)
noncomputable def sp_kd2 (p : A_kd2) (K : KC) : Bool := must (prB (pre_kd2 p)) (out_kd2 p K)
def mu_kd2 (p : A_kd2) : Nat := ((p.l3.length : Int) - p.i).toNat
structure A_kd3 where
 h3 : Value
 l3 : List StepR
 f : F3
 L : Int
 i : Int
structure R_kd3 where
 f : F3
def po_kd3 (p : A_kd3) (r : R_kd3) : Prop := FI3 r.f ∧ r.f.s0.com ≤ p.L ∧ r.f.s1.com ≤ p.L ∧ r.f.s2.com ≤ p.L
noncomputable def I_kd3 (p : A_kd3) : IL := ((.cons 17 (.sy (.int 0 p.i)) (.cons 15 (.sy (.int 0 p.L)) (.cons 9 (.ptr 0 0) (.cons 3 (.sy (.imm p.h3 4 StepR p.l3 encS)) .nil)))), (Fd3n p.f), 15)
noncomputable def out_kd3 (p : A_kd3) (K : KC) : Bool := allB fun r : R_kd3 => iP (po_kd3 p r) (K 8 (.cons 15 (.sy (.int 0 p.L)) (.cons 9 (.ptr 0 0) .nil)) (Fd3n r.f) 15) true
def pre_kd3 (p : A_kd3) : Prop := FI3 p.f ∧ 0 ≤ p.i ∧ p.i ≤ (p.l3.length : Int) ∧ p.l3.length ≤ 100 ∧ 0 ≤ p.f.cnt ∧ p.f.cnt ≤ 100 + p.i ∧ Held [p.f.s0, p.f.s1, p.f.s2] p.L
theorem fin_kd3 {p : A_kd3} {K : KC} (hK : out_kd3 p K = true) (r : R_kd3) (h : po_kd3 p r) : K 8 (.cons 15 (.sy (.int 0 p.L)) (.cons 9 (.ptr 0 0) .nil)) (Fd3n r.f) 15 = true := ifB_use h (allB_ok hK r)
noncomputable def sp_kd3 (p : A_kd3) (K : KC) : Bool := must (prB (pre_kd3 p)) (out_kd3 p K)
def mu_kd3 (p : A_kd3) : Nat := ((p.l3.length : Int) - p.i).toNat
structure A_kd4 where
 h3 : Value
 l3 : List StepR
 f : F4
 L : Int
 i : Int
structure R_kd4 where
 f : F4
def po_kd4 (p : A_kd4) (r : R_kd4) : Prop := FI4 r.f ∧ r.f.s0.com ≤ p.L ∧ r.f.s1.com ≤ p.L ∧ r.f.s2.com ≤ p.L ∧ r.f.s3.com ≤ p.L
noncomputable def I_kd4 (p : A_kd4) : IL := ((.cons 17 (.sy (.int 0 p.i)) (.cons 15 (.sy (.int 0 p.L)) (.cons 9 (.ptr 0 0) (.cons 3 (.sy (.imm p.h3 4 StepR p.l3 encS)) .nil)))), (Fd4n p.f), 19)
noncomputable def out_kd4 (p : A_kd4) (K : KC) : Bool := allB fun r : R_kd4 => iP (po_kd4 p r) (K 8 (.cons 15 (.sy (.int 0 p.L)) (.cons 9 (.ptr 0 0) .nil)) (Fd4n r.f) 19) true
def pre_kd4 (p : A_kd4) : Prop := FI4 p.f ∧ 0 ≤ p.i ∧ p.i ≤ (p.l3.length : Int) ∧ p.l3.length ≤ 100 ∧ 0 ≤ p.f.cnt ∧ p.f.cnt ≤ 100 + p.i ∧ Held [p.f.s0, p.f.s1, p.f.s2, p.f.s3] p.L
theorem fin_kd4 {p : A_kd4} {K : KC} (hK : out_kd4 p K = true) (r : R_kd4) (h : po_kd4 p r) : K 8 (.cons 15 (.sy (.int 0 p.L)) (.cons 9 (.ptr 0 0) .nil)) (Fd4n r.f) 19 = true := ifB_use h (allB_ok hK r)
noncomputable def sp_kd4 (p : A_kd4) (K : KC) : Bool := must (prB (pre_kd4 p)) (out_kd4 p K)
def mu_kd4 (p : A_kd4) : Nat := ((p.l3.length : Int) - p.i).toNat
structure A_kd5 where
 h3 : Value
 l3 : List StepR
 f : F5
 L : Int
 i : Int
structure R_kd5 where
 f : F5
def po_kd5 (p : A_kd5) (r : R_kd5) : Prop := FI5 r.f ∧ r.f.s0.com ≤ p.L ∧ r.f.s1.com ≤ p.L ∧ r.f.s2.com ≤ p.L ∧ r.f.s3.com ≤ p.L ∧ r.f.s4.com ≤ p.L
noncomputable def I_kd5 (p : A_kd5) : IL := ((.cons 17 (.sy (.int 0 p.i)) (.cons 15 (.sy (.int 0 p.L)) (.cons 9 (.ptr 0 0) (.cons 3 (.sy (.imm p.h3 4 StepR p.l3 encS)) .nil)))), (Fd5n p.f), 23)
noncomputable def out_kd5 (p : A_kd5) (K : KC) : Bool := allB fun r : R_kd5 => iP (po_kd5 p r) (K 8 (.cons 15 (.sy (.int 0 p.L)) (.cons 9 (.ptr 0 0) .nil)) (Fd5n r.f) 23) true
def pre_kd5 (p : A_kd5) : Prop := FI5 p.f ∧ 0 ≤ p.i ∧ p.i ≤ (p.l3.length : Int) ∧ p.l3.length ≤ 100 ∧ 0 ≤ p.f.cnt ∧ p.f.cnt ≤ 100 + p.i ∧ Held [p.f.s0, p.f.s1, p.f.s2, p.f.s3, p.f.s4] p.L
theorem fin_kd5 {p : A_kd5} {K : KC} (hK : out_kd5 p K = true) (r : R_kd5) (h : po_kd5 p r) : K 8 (.cons 15 (.sy (.int 0 p.L)) (.cons 9 (.ptr 0 0) .nil)) (Fd5n r.f) 23 = true := ifB_use h (allB_ok hK r)
noncomputable def sp_kd5 (p : A_kd5) (K : KC) : Bool := must (prB (pre_kd5 p)) (out_kd5 p K)
def mu_kd5 (p : A_kd5) : Nat := ((p.l3.length : Int) - p.i).toNat
noncomputable def lpv_kd (S : SL) (M : T) (nx : Nat) (K : KC) : Bool := (Bool.rec (Bool.rec (Bool.rec (Bool.rec (Bool.rec false (exB fun p : A_kd5 => must (prB ((S, M, nx) = I_kd5 p)) (sp_kd5 p K)) (Nat.beq (nEl M 1) 5)) (exB fun p : A_kd4 => must (prB ((S, M, nx) = I_kd4 p)) (sp_kd4 p K)) (Nat.beq (nEl M 1) 4)) (exB fun p : A_kd3 => must (prB ((S, M, nx) = I_kd3 p)) (sp_kd3 p K)) (Nat.beq (nEl M 1) 3)) (exB fun p : A_kd2 => must (prB ((S, M, nx) = I_kd2 p)) (sp_kd2 p K)) (Nat.beq (nEl M 1) 2)) (exB fun p : A_kd1 => must (prB ((S, M, nx) = I_kd1 p)) (sp_kd1 p K)) (Nat.beq (nEl M 1) 1))
inductive A_kd where
 | v1 (p : A_kd1)
 | v2 (p : A_kd2)
 | v3 (p : A_kd3)
 | v4 (p : A_kd4)
 | v5 (p : A_kd5)
noncomputable def I_kd (q : A_kd) : IL := A_kd.casesOn q (fun p => I_kd1 p) (fun p => I_kd2 p) (fun p => I_kd3 p) (fun p => I_kd4 p) (fun p => I_kd5 p)
def mu_kd : A_kd → Nat
 | .v1 p => mu_kd1 p
 | .v2 p => mu_kd2 p
 | .v3 p => mu_kd3 p
 | .v4 p => mu_kd4 p
 | .v5 p => mu_kd5 p
noncomputable def sp_kd (q : A_kd) (K : KC) : Bool := A_kd.casesOn q (fun p => sp_kd1 p K) (fun p => sp_kd2 p K) (fun p => sp_kd3 p K) (fun p => sp_kd4 p K) (fun p => sp_kd5 p K)
noncomputable def kk_kd (n : Nat) (K : KC) : KC := fun e S M nx => Nat.casesOn e (exB fun q : A_kd => must (prB ((S, M, nx) = I_kd q ∧ mu_kd q < n)) (sp_kd q K)) (fun e2 => K (Nat.succ e2) S M nx)
theorem bk_kd1 {p q : A_kd1} {K : KC} {s : IL} (hm : mu_kd1 q < mu_kd1 p) (hp : pre_kd1 q) (hK : out_kd1 q K = true) (e : s = I_kd1 q) : (exB fun q => mP (s = I_kd q ∧ mu_kd q < mu_kd (.v1 p)) (sp_kd q K)) = true := exB_mk (.v1 q) (mustP ⟨e, hm⟩ (mustP hp hK))
theorem bk_kd2 {p q : A_kd2} {K : KC} {s : IL} (hm : mu_kd2 q < mu_kd2 p) (hp : pre_kd2 q) (hK : out_kd2 q K = true) (e : s = I_kd2 q) : (exB fun q => mP (s = I_kd q ∧ mu_kd q < mu_kd (.v2 p)) (sp_kd q K)) = true := exB_mk (.v2 q) (mustP ⟨e, hm⟩ (mustP hp hK))
theorem bk_kd3 {p q : A_kd3} {K : KC} {s : IL} (hm : mu_kd3 q < mu_kd3 p) (hp : pre_kd3 q) (hK : out_kd3 q K = true) (e : s = I_kd3 q) : (exB fun q => mP (s = I_kd q ∧ mu_kd q < mu_kd (.v3 p)) (sp_kd q K)) = true := exB_mk (.v3 q) (mustP ⟨e, hm⟩ (mustP hp hK))
theorem bk_kd4 {p q : A_kd4} {K : KC} {s : IL} (hm : mu_kd4 q < mu_kd4 p) (hp : pre_kd4 q) (hK : out_kd4 q K = true) (e : s = I_kd4 q) : (exB fun q => mP (s = I_kd q ∧ mu_kd q < mu_kd (.v4 p)) (sp_kd q K)) = true := exB_mk (.v4 q) (mustP ⟨e, hm⟩ (mustP hp hK))
theorem bk_kd5 {p q : A_kd5} {K : KC} {s : IL} (hm : mu_kd5 q < mu_kd5 p) (hp : pre_kd5 q) (hK : out_kd5 q K = true) (e : s = I_kd5 q) : (exB fun q => mP (s = I_kd q ∧ mu_kd q < mu_kd (.v5 p)) (sp_kd q K)) = true := exB_mk (.v5 q) (mustP ⟨e, hm⟩ (mustP hp hK))
noncomputable def lp_rollKeeps : LpF := fun j S M nx K => (Bool.rec ((Bool.rec ((Bool.rec ((Bool.rec (false) (lpv_kd S M nx K) (Nat.beq j 3))) (lpv_kc S M nx K) (Nat.beq j 2))) (lpv_kb S M nx K) (Nat.beq j 1))) (lpv_ka S M nx K) (Nat.beq j 0))
def bd_ka : XC := (.aft (.seq (.seq (g_ 4 [p_ 0 39 (m_ 10), p_ 1 40 (m_ 1), p_ 2 41 (k_ 40), p_ 3 42 (.bin 3 0 (.t 39) (.t 41))]) (.cond (.t 42) .skip (.exit 2))) (.seq (.block 3 (g_ 6 [p_ 0 45 (m_ 9), p_ 1 46 (m_ 1), p_ 2 47 (m_ 10), p_ 3 48 (.ixs 4 (.t 46) (.t 47)), r_ 4 49 (.ld true 4 (.t 48)), c_ 5 50 28 [.t 45, .t 49]])) (g_ 3 [p_ 0 43 (m_ 10), p_ 1 44 (.bin 0 0 (.t 43) (i_ 1)), p_ 2 10 (m_ 44)]))) [(0, [.can 0 [1, 2, 3, 9, 10]]), (2, [.can 0 [2, 3, 9]])])
theorem vb_ka1 (p : A_ka1) (K : KC) (hpre : pre_ka1 p) (hK : out_ka1 p K = true) : (codeX (cfT nat_made) lp_rollKeeps 600 bd_ka (I_ka1 p).1 (I_ka1 p).2.1 (I_ka1 p).2.2 (kk_ka (mu_ka (.v1 p)) K)) = true := by
 refine Eq.trans (b := (iP (p.i < (p.l1.length : Int)) (mP (0 ≤ p.i ∧ p.i < (p.l1.length : Int)) (allB fun x1 : StepR => iP (p.l1[p.i.toNat]? = some x1) (useC (([.ptr 0 0, .agg [.sy (.int 0 x1.k), .sy (.int 0 x1.x), .sy (.int 0 x1.n), .sy (.int 0 x1.i)]], (Fd1n p.f), 7)) I_step1 pre_step1 po_step1 fun p1 r1 => mP (InR 0 (p.i + (1 : Int))) (exB fun q1 : A_ka => mP (((.cons 10 (.sy (.int 0 (p.i + (1 : Int)))) (.cons 9 (.ptr 0 0) (.cons 3 (.sy (.imm p.h3 4 StepR p.l3 encS)) (.cons 2 (.sy (.imm p.h2 1 Int p.l2 encZ)) (.cons 1 (.sy (.imm p.h1 4 StepR p.l1 encS)) .nil))))), (Fd1n r1.f), 7) = I_ka q1 ∧ mu_ka q1 < mu_ka (.v1 p)) (sp_ka q1 K))) true)) (K 2 (.cons 9 (.ptr 0 0) (.cons 3 (.sy (.imm p.h3 4 StepR p.l3 encS)) (.cons 2 (.sy (.imm p.h2 1 Int p.l2 encZ)) .nil))) (Fd1n p.f) 7))) (by kernel_rfl) ?_
 dsimp only [pre_ka1] at hpre
 obtain ⟨g0, g1, g2, g3, g4, g5⟩ := hpre
 refine iI (fun hc1 => ?_) (fun hc1 => ?_)
 refine mI (by first | omega | (constructor <;> omega)) ?_
 refine allB_mk (fun x1 => ?_)
 refine iI (fun hi2 => ?_) (fun _ => rfl)
 refine callPR (⟨p.f, x1.k, x1.x, x1.n, x1.i⟩ : A_step1) rfl (by (try dsimp only [pre_step1]); exact ⟨by assumption, by omega, by omega⟩) fun r1 hi3 => ?_
 dsimp only [po_step1] at hi3
 refine mI (by simp only [InR]; omega) ?_
 exact bk_ka1 (q := ⟨p.h1, p.l1, p.h2, p.l2, p.h3, p.l3, r1.f, p.i + (1 : Int)⟩) (by dsimp only [mu_ka1]; omega) (by dsimp only [pre_ka1]; exact ⟨hi3.1.1, by omega, by omega, by omega, by omega, by omega⟩) hK rfl
 exact fin_ka1 hK ⟨p.f⟩ (by dsimp only [po_ka1] <;> exact ⟨g0, by omega, by omega⟩)
theorem vb_ka2 (p : A_ka2) (K : KC) (hpre : pre_ka2 p) (hK : out_ka2 p K = true) : (codeX (cfT nat_made) lp_rollKeeps 600 bd_ka (I_ka2 p).1 (I_ka2 p).2.1 (I_ka2 p).2.2 (kk_ka (mu_ka (.v2 p)) K)) = true := by
 refine Eq.trans (b := (iP (p.i < (p.l1.length : Int)) (mP (0 ≤ p.i ∧ p.i < (p.l1.length : Int)) (allB fun x1 : StepR => iP (p.l1[p.i.toNat]? = some x1) (useC (([.ptr 0 0, .agg [.sy (.int 0 x1.k), .sy (.int 0 x1.x), .sy (.int 0 x1.n), .sy (.int 0 x1.i)]], (Fd2n p.f), 11)) I_step2 pre_step2 po_step2 fun p1 r1 => mP (InR 0 (p.i + (1 : Int))) (exB fun q1 : A_ka => mP (((.cons 10 (.sy (.int 0 (p.i + (1 : Int)))) (.cons 9 (.ptr 0 0) (.cons 3 (.sy (.imm p.h3 4 StepR p.l3 encS)) (.cons 2 (.sy (.imm p.h2 1 Int p.l2 encZ)) (.cons 1 (.sy (.imm p.h1 4 StepR p.l1 encS)) .nil))))), (Fd2n r1.f), 11) = I_ka q1 ∧ mu_ka q1 < mu_ka (.v2 p)) (sp_ka q1 K))) true)) (K 2 (.cons 9 (.ptr 0 0) (.cons 3 (.sy (.imm p.h3 4 StepR p.l3 encS)) (.cons 2 (.sy (.imm p.h2 1 Int p.l2 encZ)) .nil))) (Fd2n p.f) 11))) (by kernel_rfl) ?_
 dsimp only [pre_ka2] at hpre
 obtain ⟨g0, g1, g2, g3, g4, g5⟩ := hpre
 refine iI (fun hc1 => ?_) (fun hc1 => ?_)
 refine mI (by first | omega | (constructor <;> omega)) ?_
 refine allB_mk (fun x1 => ?_)
 refine iI (fun hi2 => ?_) (fun _ => rfl)
 refine callPR (⟨p.f, x1.k, x1.x, x1.n, x1.i⟩ : A_step2) rfl (by (try dsimp only [pre_step2]); exact ⟨by assumption, by omega, by omega⟩) fun r1 hi3 => ?_
 dsimp only [po_step2] at hi3
 refine mI (by simp only [InR]; omega) ?_
 exact bk_ka2 (q := ⟨p.h1, p.l1, p.h2, p.l2, p.h3, p.l3, r1.f, p.i + (1 : Int)⟩) (by dsimp only [mu_ka2]; omega) (by dsimp only [pre_ka2]; exact ⟨hi3.1.1, by omega, by omega, by omega, by omega, by omega⟩) hK rfl
 exact fin_ka2 hK ⟨p.f⟩ (by dsimp only [po_ka2] <;> exact ⟨g0, by omega, by omega⟩)
theorem vb_ka3 (p : A_ka3) (K : KC) (hpre : pre_ka3 p) (hK : out_ka3 p K = true) : (codeX (cfT nat_made) lp_rollKeeps 600 bd_ka (I_ka3 p).1 (I_ka3 p).2.1 (I_ka3 p).2.2 (kk_ka (mu_ka (.v3 p)) K)) = true := by
 refine Eq.trans (b := (iP (p.i < (p.l1.length : Int)) (mP (0 ≤ p.i ∧ p.i < (p.l1.length : Int)) (allB fun x1 : StepR => iP (p.l1[p.i.toNat]? = some x1) (useC (([.ptr 0 0, .agg [.sy (.int 0 x1.k), .sy (.int 0 x1.x), .sy (.int 0 x1.n), .sy (.int 0 x1.i)]], (Fd3n p.f), 15)) I_step3 pre_step3 po_step3 fun p1 r1 => mP (InR 0 (p.i + (1 : Int))) (exB fun q1 : A_ka => mP (((.cons 10 (.sy (.int 0 (p.i + (1 : Int)))) (.cons 9 (.ptr 0 0) (.cons 3 (.sy (.imm p.h3 4 StepR p.l3 encS)) (.cons 2 (.sy (.imm p.h2 1 Int p.l2 encZ)) (.cons 1 (.sy (.imm p.h1 4 StepR p.l1 encS)) .nil))))), (Fd3n r1.f), 15) = I_ka q1 ∧ mu_ka q1 < mu_ka (.v3 p)) (sp_ka q1 K))) true)) (K 2 (.cons 9 (.ptr 0 0) (.cons 3 (.sy (.imm p.h3 4 StepR p.l3 encS)) (.cons 2 (.sy (.imm p.h2 1 Int p.l2 encZ)) .nil))) (Fd3n p.f) 15))) (by kernel_rfl) ?_
 dsimp only [pre_ka3] at hpre
 obtain ⟨g0, g1, g2, g3, g4, g5⟩ := hpre
 refine iI (fun hc1 => ?_) (fun hc1 => ?_)
 refine mI (by first | omega | (constructor <;> omega)) ?_
 refine allB_mk (fun x1 => ?_)
 refine iI (fun hi2 => ?_) (fun _ => rfl)
 refine callPR (⟨p.f, x1.k, x1.x, x1.n, x1.i⟩ : A_step3) rfl (by (try dsimp only [pre_step3]); exact ⟨by assumption, by omega, by omega⟩) fun r1 hi3 => ?_
 dsimp only [po_step3] at hi3
 refine mI (by simp only [InR]; omega) ?_
 exact bk_ka3 (q := ⟨p.h1, p.l1, p.h2, p.l2, p.h3, p.l3, r1.f, p.i + (1 : Int)⟩) (by dsimp only [mu_ka3]; omega) (by dsimp only [pre_ka3]; exact ⟨hi3.1.1, by omega, by omega, by omega, by omega, by omega⟩) hK rfl
 exact fin_ka3 hK ⟨p.f⟩ (by dsimp only [po_ka3] <;> exact ⟨g0, by omega, by omega⟩)
theorem vb_ka4 (p : A_ka4) (K : KC) (hpre : pre_ka4 p) (hK : out_ka4 p K = true) : (codeX (cfT nat_made) lp_rollKeeps 600 bd_ka (I_ka4 p).1 (I_ka4 p).2.1 (I_ka4 p).2.2 (kk_ka (mu_ka (.v4 p)) K)) = true := by
 refine Eq.trans (b := (iP (p.i < (p.l1.length : Int)) (mP (0 ≤ p.i ∧ p.i < (p.l1.length : Int)) (allB fun x1 : StepR => iP (p.l1[p.i.toNat]? = some x1) (useC (([.ptr 0 0, .agg [.sy (.int 0 x1.k), .sy (.int 0 x1.x), .sy (.int 0 x1.n), .sy (.int 0 x1.i)]], (Fd4n p.f), 19)) I_step4 pre_step4 po_step4 fun p1 r1 => mP (InR 0 (p.i + (1 : Int))) (exB fun q1 : A_ka => mP (((.cons 10 (.sy (.int 0 (p.i + (1 : Int)))) (.cons 9 (.ptr 0 0) (.cons 3 (.sy (.imm p.h3 4 StepR p.l3 encS)) (.cons 2 (.sy (.imm p.h2 1 Int p.l2 encZ)) (.cons 1 (.sy (.imm p.h1 4 StepR p.l1 encS)) .nil))))), (Fd4n r1.f), 19) = I_ka q1 ∧ mu_ka q1 < mu_ka (.v4 p)) (sp_ka q1 K))) true)) (K 2 (.cons 9 (.ptr 0 0) (.cons 3 (.sy (.imm p.h3 4 StepR p.l3 encS)) (.cons 2 (.sy (.imm p.h2 1 Int p.l2 encZ)) .nil))) (Fd4n p.f) 19))) (by kernel_rfl) ?_
 dsimp only [pre_ka4] at hpre
 obtain ⟨g0, g1, g2, g3, g4, g5⟩ := hpre
 refine iI (fun hc1 => ?_) (fun hc1 => ?_)
 refine mI (by first | omega | (constructor <;> omega)) ?_
 refine allB_mk (fun x1 => ?_)
 refine iI (fun hi2 => ?_) (fun _ => rfl)
 refine callPR (⟨p.f, x1.k, x1.x, x1.n, x1.i⟩ : A_step4) rfl (by (try dsimp only [pre_step4]); exact ⟨by assumption, by omega, by omega⟩) fun r1 hi3 => ?_
 dsimp only [po_step4] at hi3
 refine mI (by simp only [InR]; omega) ?_
 exact bk_ka4 (q := ⟨p.h1, p.l1, p.h2, p.l2, p.h3, p.l3, r1.f, p.i + (1 : Int)⟩) (by dsimp only [mu_ka4]; omega) (by dsimp only [pre_ka4]; exact ⟨hi3.1.1, by omega, by omega, by omega, by omega, by omega⟩) hK rfl
 exact fin_ka4 hK ⟨p.f⟩ (by dsimp only [po_ka4] <;> exact ⟨g0, by omega, by omega⟩)
theorem vb_ka5 (p : A_ka5) (K : KC) (hpre : pre_ka5 p) (hK : out_ka5 p K = true) : (codeX (cfT nat_made) lp_rollKeeps 600 bd_ka (I_ka5 p).1 (I_ka5 p).2.1 (I_ka5 p).2.2 (kk_ka (mu_ka (.v5 p)) K)) = true := by
 refine Eq.trans (b := (iP (p.i < (p.l1.length : Int)) (mP (0 ≤ p.i ∧ p.i < (p.l1.length : Int)) (allB fun x1 : StepR => iP (p.l1[p.i.toNat]? = some x1) (useC (([.ptr 0 0, .agg [.sy (.int 0 x1.k), .sy (.int 0 x1.x), .sy (.int 0 x1.n), .sy (.int 0 x1.i)]], (Fd5n p.f), 23)) I_step5 pre_step5 po_step5 fun p1 r1 => mP (InR 0 (p.i + (1 : Int))) (exB fun q1 : A_ka => mP (((.cons 10 (.sy (.int 0 (p.i + (1 : Int)))) (.cons 9 (.ptr 0 0) (.cons 3 (.sy (.imm p.h3 4 StepR p.l3 encS)) (.cons 2 (.sy (.imm p.h2 1 Int p.l2 encZ)) (.cons 1 (.sy (.imm p.h1 4 StepR p.l1 encS)) .nil))))), (Fd5n r1.f), 23) = I_ka q1 ∧ mu_ka q1 < mu_ka (.v5 p)) (sp_ka q1 K))) true)) (K 2 (.cons 9 (.ptr 0 0) (.cons 3 (.sy (.imm p.h3 4 StepR p.l3 encS)) (.cons 2 (.sy (.imm p.h2 1 Int p.l2 encZ)) .nil))) (Fd5n p.f) 23))) (by kernel_rfl) ?_
 dsimp only [pre_ka5] at hpre
 obtain ⟨g0, g1, g2, g3, g4, g5⟩ := hpre
 refine iI (fun hc1 => ?_) (fun hc1 => ?_)
 refine mI (by first | omega | (constructor <;> omega)) ?_
 refine allB_mk (fun x1 => ?_)
 refine iI (fun hi2 => ?_) (fun _ => rfl)
 refine callPR (⟨p.f, x1.k, x1.x, x1.n, x1.i⟩ : A_step5) rfl (by (try dsimp only [pre_step5]); exact ⟨by assumption, by omega, by omega⟩) fun r1 hi3 => ?_
 dsimp only [po_step5] at hi3
 refine mI (by simp only [InR]; omega) ?_
 exact bk_ka5 (q := ⟨p.h1, p.l1, p.h2, p.l2, p.h3, p.l3, r1.f, p.i + (1 : Int)⟩) (by dsimp only [mu_ka5]; omega) (by dsimp only [pre_ka5]; exact ⟨hi3.1.1, by omega, by omega, by omega, by omega, by omega⟩) hK rfl
 exact fin_ka5 hK ⟨p.f⟩ (by dsimp only [po_ka5] <;> exact ⟨g0, by omega, by omega⟩)
theorem lo_ka : LpOk Try.prog 153 0 lp_rollKeeps true 0 bd_ka := by
 refine lp_of (lf := 600) tb_mix (cfT_ok nat_made_ok) (by rfl) I_ka mu_ka sp_ka (fun b j x h => by cases h) (fun S M nx K h => ?_) (fun p K h => ?_)
 ·have h : lpv_ka S M nx K = true := h
  unfold lpv_ka at h
  rcases var_ok h with ⟨_, h⟩ | ⟨_, h⟩
  ·obtain ⟨p, h⟩ := exB_ok h; exact ⟨.v1 p, (mustP_ok h).1, (mustP_ok h).2⟩
  rcases var_ok h with ⟨_, h⟩ | ⟨_, h⟩
  ·obtain ⟨p, h⟩ := exB_ok h; exact ⟨.v2 p, (mustP_ok h).1, (mustP_ok h).2⟩
  rcases var_ok h with ⟨_, h⟩ | ⟨_, h⟩
  ·obtain ⟨p, h⟩ := exB_ok h; exact ⟨.v3 p, (mustP_ok h).1, (mustP_ok h).2⟩
  rcases var_ok h with ⟨_, h⟩ | ⟨_, h⟩
  ·obtain ⟨p, h⟩ := exB_ok h; exact ⟨.v4 p, (mustP_ok h).1, (mustP_ok h).2⟩
  rcases var_ok h with ⟨_, h⟩ | ⟨_, h⟩
  ·obtain ⟨p, h⟩ := exB_ok h; exact ⟨.v5 p, (mustP_ok h).1, (mustP_ok h).2⟩
  cases h
 ·cases p with
  | v1 p => have h : sp_ka1 p K = true := h; exact vb_ka1 p K (mustP_ok h).1 (mustP_ok h).2
  | v2 p => have h : sp_ka2 p K = true := h; exact vb_ka2 p K (mustP_ok h).1 (mustP_ok h).2
  | v3 p => have h : sp_ka3 p K = true := h; exact vb_ka3 p K (mustP_ok h).1 (mustP_ok h).2
  | v4 p => have h : sp_ka4 p K = true := h; exact vb_ka4 p K (mustP_ok h).1 (mustP_ok h).2
  | v5 p => have h : sp_ka5 p K = true := h; exact vb_ka5 p K (mustP_ok h).1 (mustP_ok h).2
def bd_kb : XC := (.aft (.seq (.seq (g_ 4 [p_ 0 57 (m_ 13), p_ 1 58 (m_ 2), p_ 2 59 (k_ 58), p_ 3 60 (.bin 3 0 (.t 57) (.t 59))]) (.cond (.t 60) .skip (.exit 4))) (.seq (.block 5 (.seq (.aft (g_ 14 [p_ 0 63 (m_ 2), p_ 1 64 (m_ 13), p_ 2 65 (.ixs 1 (.t 63) (.t 64)), r_ 3 66 (l_ 65), p_ 4 67 (m_ 11), p_ 5 68 (k_ 67), p_ 6 69 (.bin 0 4 (.t 66) (.t 68)), p_ 7 70 (m_ 11), p_ 8 71 (k_ 70), p_ 9 72 (.bin 0 0 (.t 69) (.t 71)), p_ 10 73 (m_ 11), p_ 11 74 (k_ 73), p_ 12 75 (.bin 0 4 (.t 72) (.t 74)), p_ 13 14 (m_ 75)]) [(0, [.fix 14 6])]) (.seq (g_ 5 [p_ 0 76 (m_ 11), p_ 1 77 (m_ 14), p_ 2 78 (.ixs 1 (.t 76) (.t 77)), r_ 3 79 (l_ 78), p_ 4 80 (.un 0 (.t 79))]) (.cond (.t 80) (.seq (g_ 4 [p_ 0 81 (m_ 11), p_ 1 82 (m_ 14), p_ 2 83 (.ixs 1 (.t 81) (.t 82)), e0_ 3 (.st 1 (.t 83) (.c (.bool true)))]) (g_ 3 [p_ 0 84 (m_ 12), p_ 1 85 (.bin 0 0 (.t 84) (i_ 1)), p_ 2 12 (m_ 85)])) .skip)))) (g_ 3 [p_ 0 61 (m_ 13), p_ 1 62 (.bin 0 0 (.t 61) (i_ 1)), p_ 2 13 (m_ 62)]))) [(0, [.upc 1 0 0, .upc 1 1 0, .upc 1 2 0, .upc 1 3 0, .upc 1 4 0, .can 0 [2, 3, 9, 11, 12, 13]]), (4, [.can 0 [3, 9, 11, 12]])])
theorem vb_kb1 (p : A_kb1) (K : KC) (hpre : pre_kb1 p) (hK : out_kb1 p K = true) : (codeX (cfT nat_made) lp_rollKeeps 600 bd_kb (I_kb1 p).1 (I_kb1 p).2.1 (I_kb1 p).2.2 (kk_kb (mu_kb (.v1 p)) K)) = true := by
 refine Eq.trans (b := (iP (p.i < (p.l2.length : Int)) (mP (0 ≤ p.i ∧ p.i < (p.l2.length : Int)) (allB fun x1 : Int => iP (p.l2[p.i.toNat]? = some x1) (mP ((1 : Int) ≠ 0) (mP (InR 0 ((Int.tmod x1 (1 : Int)) + (1 : Int))) (mP ((1 : Int) ≠ 0) (iP ((Int.tmod ((Int.tmod x1 (1 : Int)) + (1 : Int)) (1 : Int)) = 0) (iP (¬ p.b0) (mP (InR 0 (p.c + (1 : Int))) (mP (InR 0 (p.i + (1 : Int))) (exB fun q1 : A_kb => mP (((.cons 13 (.sy (.int 0 (p.i + (1 : Int)))) (.cons 12 (.sy (.int 0 (p.c + (1 : Int)))) (.cons 11 (.sl 1 0 1 (.ex 1)) (.cons 9 (.ptr 0 0) (.cons 3 (.sy (.imm p.h3 4 StepR p.l3 encS)) (.cons 2 (.sy (.imm p.h2 1 Int p.l2 encZ)) .nil)))))), (Fk1n p.f (true = true)), 8) = I_kb q1 ∧ mu_kb q1 < mu_kb (.v1 p)) (sp_kb q1 K)))) (mP (InR 0 (p.i + (1 : Int))) (exB fun q2 : A_kb => mP (((.cons 13 (.sy (.int 0 (p.i + (1 : Int)))) (.cons 12 (.sy (.int 0 p.c)) (.cons 11 (.sl 1 0 1 (.ex 1)) (.cons 9 (.ptr 0 0) (.cons 3 (.sy (.imm p.h3 4 StepR p.l3 encS)) (.cons 2 (.sy (.imm p.h2 1 Int p.l2 encZ)) .nil)))))), (Fk1n p.f p.b0), 8) = I_kb q2 ∧ mu_kb q2 < mu_kb (.v1 p)) (sp_kb q2 K)))) (iP ((Int.tmod ((Int.tmod x1 (1 : Int)) + (1 : Int)) (1 : Int)) = 1) (false) (iP ((Int.tmod ((Int.tmod x1 (1 : Int)) + (1 : Int)) (1 : Int)) = 2) (false) (iP ((Int.tmod ((Int.tmod x1 (1 : Int)) + (1 : Int)) (1 : Int)) = 3) (false) (iP ((Int.tmod ((Int.tmod x1 (1 : Int)) + (1 : Int)) (1 : Int)) = 4) (false) (iP ((Int.tmod ((Int.tmod x1 (1 : Int)) + (1 : Int)) (1 : Int)) = 5) (false) (mP (False) (true))))))))))) true)) (K 4 (.cons 12 (.sy (.int 0 p.c)) (.cons 11 (.sl 1 0 1 (.ex 1)) (.cons 9 (.ptr 0 0) (.cons 3 (.sy (.imm p.h3 4 StepR p.l3 encS)) .nil)))) (Fk1n p.f p.b0) 8))) (by kernel_rfl) ?_
 dsimp only [pre_kb1] at hpre
 obtain ⟨g0, g1, g2, g3⟩ := hpre
 have g9 := cntB_le [prB p.b0]
 simp only [List.length_cons, List.length_nil] at g9
 have gt : ∀ z : Int, -1 < z.tmod 1 ∧ z.tmod 1 < 1 := tmb 1 (by decide)
 refine iI (fun hc1 => ?_) (fun hc1 => ?_)
 refine mI (by first | omega | (constructor <;> omega)) ?_
 refine allB_mk (fun x1 => ?_)
 refine iI (fun hi2 => ?_) (fun _ => rfl)
 have gu := gt x1
 have gv := tmp 1 (by decide) (Int.tmod x1 1 + 1) (by omega)
 refine mI (by decide) (mI (by simp only [InR]; omega) (mI (by decide) ?_))
 refine iI (fun hc3 => ?_) (fun hc3 => ?_)
 refine iI (fun hc4 => ?_) (fun hc4 => ?_)
 refine mI (by simp only [InR]; omega) (mI (by simp only [InR]; omega) ?_)
 exact bk_kb1 (q := ⟨p.h2, p.l2, p.h3, p.l3, p.f, true = true, p.c + (1 : Int), p.i + (1 : Int)⟩) (by dsimp only [mu_kb1]; omega) (by dsimp only [pre_kb1]; exact ⟨by rw [g0]; exact cnt_flip [] [] (by assumption) rfl, by omega, by omega, by omega⟩) hK rfl
 refine mI (by simp only [InR]; omega) ?_
 exact bk_kb1 (q := ⟨p.h2, p.l2, p.h3, p.l3, p.f, p.b0, p.c, p.i + (1 : Int)⟩) (by dsimp only [mu_kb1]; omega) (by dsimp only [pre_kb1]; exact ⟨g0, by omega, by omega, by omega⟩) hK rfl
 refine iI (fun hc5 => ?_) (fun hc5 => ?_)
 exfalso; omega
 refine iI (fun hc6 => ?_) (fun hc6 => ?_)
 exfalso; omega
 refine iI (fun hc7 => ?_) (fun hc7 => ?_)
 exfalso; omega
 refine iI (fun hc8 => ?_) (fun hc8 => ?_)
 exfalso; omega
 refine iI (fun hc9 => ?_) (fun hc9 => ?_)
 exfalso; omega
 refine mI (by omega) ?_
 rfl
 exact fin_kb1 hK ⟨p.b0, p.c⟩ (by dsimp only [po_kb1] <;> exact ⟨g0, by omega, by omega⟩)
theorem vb_kb2 (p : A_kb2) (K : KC) (hpre : pre_kb2 p) (hK : out_kb2 p K = true) : (codeX (cfT nat_made) lp_rollKeeps 600 bd_kb (I_kb2 p).1 (I_kb2 p).2.1 (I_kb2 p).2.2 (kk_kb (mu_kb (.v2 p)) K)) = true := by
 refine Eq.trans (b := (iP (p.i < (p.l2.length : Int)) (mP (0 ≤ p.i ∧ p.i < (p.l2.length : Int)) (allB fun x1 : Int => iP (p.l2[p.i.toNat]? = some x1) (mP ((2 : Int) ≠ 0) (mP (InR 0 ((Int.tmod x1 (2 : Int)) + (2 : Int))) (mP ((2 : Int) ≠ 0) (iP ((Int.tmod ((Int.tmod x1 (2 : Int)) + (2 : Int)) (2 : Int)) = 0) (iP (¬ p.b0) (mP (InR 0 (p.c + (1 : Int))) (mP (InR 0 (p.i + (1 : Int))) (exB fun q3 : A_kb => mP (((.cons 13 (.sy (.int 0 (p.i + (1 : Int)))) (.cons 12 (.sy (.int 0 (p.c + (1 : Int)))) (.cons 11 (.sl 1 0 2 (.ex 2)) (.cons 9 (.ptr 0 0) (.cons 3 (.sy (.imm p.h3 4 StepR p.l3 encS)) (.cons 2 (.sy (.imm p.h2 1 Int p.l2 encZ)) .nil)))))), (Fk2n p.f (true = true) p.b1), 12) = I_kb q3 ∧ mu_kb q3 < mu_kb (.v2 p)) (sp_kb q3 K)))) (mP (InR 0 (p.i + (1 : Int))) (exB fun q4 : A_kb => mP (((.cons 13 (.sy (.int 0 (p.i + (1 : Int)))) (.cons 12 (.sy (.int 0 p.c)) (.cons 11 (.sl 1 0 2 (.ex 2)) (.cons 9 (.ptr 0 0) (.cons 3 (.sy (.imm p.h3 4 StepR p.l3 encS)) (.cons 2 (.sy (.imm p.h2 1 Int p.l2 encZ)) .nil)))))), (Fk2n p.f p.b0 p.b1), 12) = I_kb q4 ∧ mu_kb q4 < mu_kb (.v2 p)) (sp_kb q4 K)))) (iP ((Int.tmod ((Int.tmod x1 (2 : Int)) + (2 : Int)) (2 : Int)) = 1) (iP (¬ p.b1) (mP (InR 0 (p.c + (1 : Int))) (mP (InR 0 (p.i + (1 : Int))) (exB fun q1 : A_kb => mP (((.cons 13 (.sy (.int 0 (p.i + (1 : Int)))) (.cons 12 (.sy (.int 0 (p.c + (1 : Int)))) (.cons 11 (.sl 1 0 2 (.ex 2)) (.cons 9 (.ptr 0 0) (.cons 3 (.sy (.imm p.h3 4 StepR p.l3 encS)) (.cons 2 (.sy (.imm p.h2 1 Int p.l2 encZ)) .nil)))))), (Fk2n p.f p.b0 (true = true)), 12) = I_kb q1 ∧ mu_kb q1 < mu_kb (.v2 p)) (sp_kb q1 K)))) (mP (InR 0 (p.i + (1 : Int))) (exB fun q2 : A_kb => mP (((.cons 13 (.sy (.int 0 (p.i + (1 : Int)))) (.cons 12 (.sy (.int 0 p.c)) (.cons 11 (.sl 1 0 2 (.ex 2)) (.cons 9 (.ptr 0 0) (.cons 3 (.sy (.imm p.h3 4 StepR p.l3 encS)) (.cons 2 (.sy (.imm p.h2 1 Int p.l2 encZ)) .nil)))))), (Fk2n p.f p.b0 p.b1), 12) = I_kb q2 ∧ mu_kb q2 < mu_kb (.v2 p)) (sp_kb q2 K)))) (iP ((Int.tmod ((Int.tmod x1 (2 : Int)) + (2 : Int)) (2 : Int)) = 2) (false) (iP ((Int.tmod ((Int.tmod x1 (2 : Int)) + (2 : Int)) (2 : Int)) = 3) (false) (iP ((Int.tmod ((Int.tmod x1 (2 : Int)) + (2 : Int)) (2 : Int)) = 4) (false) (iP ((Int.tmod ((Int.tmod x1 (2 : Int)) + (2 : Int)) (2 : Int)) = 5) (false) (mP (False) (true))))))))))) true)) (K 4 (.cons 12 (.sy (.int 0 p.c)) (.cons 11 (.sl 1 0 2 (.ex 2)) (.cons 9 (.ptr 0 0) (.cons 3 (.sy (.imm p.h3 4 StepR p.l3 encS)) .nil)))) (Fk2n p.f p.b0 p.b1) 12))) (by kernel_rfl) ?_
 dsimp only [pre_kb2] at hpre
 obtain ⟨g0, g1, g2, g3⟩ := hpre
 have g9 := cntB_le [prB p.b0, prB p.b1]
 simp only [List.length_cons, List.length_nil] at g9
 have gt : ∀ z : Int, -2 < z.tmod 2 ∧ z.tmod 2 < 2 := tmb 2 (by decide)
 refine iI (fun hc1 => ?_) (fun hc1 => ?_)
 refine mI (by first | omega | (constructor <;> omega)) ?_
 refine allB_mk (fun x1 => ?_)
 refine iI (fun hi2 => ?_) (fun _ => rfl)
 have gu := gt x1
 have gv := tmp 2 (by decide) (Int.tmod x1 2 + 2) (by omega)
 refine mI (by decide) (mI (by simp only [InR]; omega) (mI (by decide) ?_))
 refine iI (fun hc3 => ?_) (fun hc3 => ?_)
 refine iI (fun hc4 => ?_) (fun hc4 => ?_)
 refine mI (by simp only [InR]; omega) (mI (by simp only [InR]; omega) ?_)
 exact bk_kb2 (q := ⟨p.h2, p.l2, p.h3, p.l3, p.f, true = true, p.b1, p.c + (1 : Int), p.i + (1 : Int)⟩) (by dsimp only [mu_kb2]; omega) (by dsimp only [pre_kb2]; exact ⟨by rw [g0]; exact cnt_flip [] [prB p.b1] (by assumption) rfl, by omega, by omega, by omega⟩) hK rfl
 refine mI (by simp only [InR]; omega) ?_
 exact bk_kb2 (q := ⟨p.h2, p.l2, p.h3, p.l3, p.f, p.b0, p.b1, p.c, p.i + (1 : Int)⟩) (by dsimp only [mu_kb2]; omega) (by dsimp only [pre_kb2]; exact ⟨g0, by omega, by omega, by omega⟩) hK rfl
 refine iI (fun hc5 => ?_) (fun hc5 => ?_)
 refine iI (fun hc6 => ?_) (fun hc6 => ?_)
 refine mI (by simp only [InR]; omega) (mI (by simp only [InR]; omega) ?_)
 exact bk_kb2 (q := ⟨p.h2, p.l2, p.h3, p.l3, p.f, p.b0, true = true, p.c + (1 : Int), p.i + (1 : Int)⟩) (by dsimp only [mu_kb2]; omega) (by dsimp only [pre_kb2]; exact ⟨by rw [g0]; exact cnt_flip [prB p.b0] [] (by assumption) rfl, by omega, by omega, by omega⟩) hK rfl
 refine mI (by simp only [InR]; omega) ?_
 exact bk_kb2 (q := ⟨p.h2, p.l2, p.h3, p.l3, p.f, p.b0, p.b1, p.c, p.i + (1 : Int)⟩) (by dsimp only [mu_kb2]; omega) (by dsimp only [pre_kb2]; exact ⟨g0, by omega, by omega, by omega⟩) hK rfl
 refine iI (fun hc7 => ?_) (fun hc7 => ?_)
 exfalso; omega
 refine iI (fun hc8 => ?_) (fun hc8 => ?_)
 exfalso; omega
 refine iI (fun hc9 => ?_) (fun hc9 => ?_)
 exfalso; omega
 refine iI (fun hc10 => ?_) (fun hc10 => ?_)
 exfalso; omega
 refine mI (by omega) ?_
 rfl
 exact fin_kb2 hK ⟨p.b0, p.b1, p.c⟩ (by dsimp only [po_kb2] <;> exact ⟨g0, by omega, by omega⟩)
theorem vb_kb3 (p : A_kb3) (K : KC) (hpre : pre_kb3 p) (hK : out_kb3 p K = true) : (codeX (cfT nat_made) lp_rollKeeps 600 bd_kb (I_kb3 p).1 (I_kb3 p).2.1 (I_kb3 p).2.2 (kk_kb (mu_kb (.v3 p)) K)) = true := by
 refine Eq.trans (b := (iP (p.i < (p.l2.length : Int)) (mP (0 ≤ p.i ∧ p.i < (p.l2.length : Int)) (allB fun x1 : Int => iP (p.l2[p.i.toNat]? = some x1) (mP ((3 : Int) ≠ 0) (mP (InR 0 ((Int.tmod x1 (3 : Int)) + (3 : Int))) (mP ((3 : Int) ≠ 0) (iP ((Int.tmod ((Int.tmod x1 (3 : Int)) + (3 : Int)) (3 : Int)) = 0) (iP (¬ p.b0) (mP (InR 0 (p.c + (1 : Int))) (mP (InR 0 (p.i + (1 : Int))) (exB fun q5 : A_kb => mP (((.cons 13 (.sy (.int 0 (p.i + (1 : Int)))) (.cons 12 (.sy (.int 0 (p.c + (1 : Int)))) (.cons 11 (.sl 1 0 3 (.ex 3)) (.cons 9 (.ptr 0 0) (.cons 3 (.sy (.imm p.h3 4 StepR p.l3 encS)) (.cons 2 (.sy (.imm p.h2 1 Int p.l2 encZ)) .nil)))))), (Fk3n p.f (true = true) p.b1 p.b2), 16) = I_kb q5 ∧ mu_kb q5 < mu_kb (.v3 p)) (sp_kb q5 K)))) (mP (InR 0 (p.i + (1 : Int))) (exB fun q6 : A_kb => mP (((.cons 13 (.sy (.int 0 (p.i + (1 : Int)))) (.cons 12 (.sy (.int 0 p.c)) (.cons 11 (.sl 1 0 3 (.ex 3)) (.cons 9 (.ptr 0 0) (.cons 3 (.sy (.imm p.h3 4 StepR p.l3 encS)) (.cons 2 (.sy (.imm p.h2 1 Int p.l2 encZ)) .nil)))))), (Fk3n p.f p.b0 p.b1 p.b2), 16) = I_kb q6 ∧ mu_kb q6 < mu_kb (.v3 p)) (sp_kb q6 K)))) (iP ((Int.tmod ((Int.tmod x1 (3 : Int)) + (3 : Int)) (3 : Int)) = 1) (iP (¬ p.b1) (mP (InR 0 (p.c + (1 : Int))) (mP (InR 0 (p.i + (1 : Int))) (exB fun q3 : A_kb => mP (((.cons 13 (.sy (.int 0 (p.i + (1 : Int)))) (.cons 12 (.sy (.int 0 (p.c + (1 : Int)))) (.cons 11 (.sl 1 0 3 (.ex 3)) (.cons 9 (.ptr 0 0) (.cons 3 (.sy (.imm p.h3 4 StepR p.l3 encS)) (.cons 2 (.sy (.imm p.h2 1 Int p.l2 encZ)) .nil)))))), (Fk3n p.f p.b0 (true = true) p.b2), 16) = I_kb q3 ∧ mu_kb q3 < mu_kb (.v3 p)) (sp_kb q3 K)))) (mP (InR 0 (p.i + (1 : Int))) (exB fun q4 : A_kb => mP (((.cons 13 (.sy (.int 0 (p.i + (1 : Int)))) (.cons 12 (.sy (.int 0 p.c)) (.cons 11 (.sl 1 0 3 (.ex 3)) (.cons 9 (.ptr 0 0) (.cons 3 (.sy (.imm p.h3 4 StepR p.l3 encS)) (.cons 2 (.sy (.imm p.h2 1 Int p.l2 encZ)) .nil)))))), (Fk3n p.f p.b0 p.b1 p.b2), 16) = I_kb q4 ∧ mu_kb q4 < mu_kb (.v3 p)) (sp_kb q4 K)))) (iP ((Int.tmod ((Int.tmod x1 (3 : Int)) + (3 : Int)) (3 : Int)) = 2) (iP (¬ p.b2) (mP (InR 0 (p.c + (1 : Int))) (mP (InR 0 (p.i + (1 : Int))) (exB fun q1 : A_kb => mP (((.cons 13 (.sy (.int 0 (p.i + (1 : Int)))) (.cons 12 (.sy (.int 0 (p.c + (1 : Int)))) (.cons 11 (.sl 1 0 3 (.ex 3)) (.cons 9 (.ptr 0 0) (.cons 3 (.sy (.imm p.h3 4 StepR p.l3 encS)) (.cons 2 (.sy (.imm p.h2 1 Int p.l2 encZ)) .nil)))))), (Fk3n p.f p.b0 p.b1 (true = true)), 16) = I_kb q1 ∧ mu_kb q1 < mu_kb (.v3 p)) (sp_kb q1 K)))) (mP (InR 0 (p.i + (1 : Int))) (exB fun q2 : A_kb => mP (((.cons 13 (.sy (.int 0 (p.i + (1 : Int)))) (.cons 12 (.sy (.int 0 p.c)) (.cons 11 (.sl 1 0 3 (.ex 3)) (.cons 9 (.ptr 0 0) (.cons 3 (.sy (.imm p.h3 4 StepR p.l3 encS)) (.cons 2 (.sy (.imm p.h2 1 Int p.l2 encZ)) .nil)))))), (Fk3n p.f p.b0 p.b1 p.b2), 16) = I_kb q2 ∧ mu_kb q2 < mu_kb (.v3 p)) (sp_kb q2 K)))) (iP ((Int.tmod ((Int.tmod x1 (3 : Int)) + (3 : Int)) (3 : Int)) = 3) (false) (iP ((Int.tmod ((Int.tmod x1 (3 : Int)) + (3 : Int)) (3 : Int)) = 4) (false) (iP ((Int.tmod ((Int.tmod x1 (3 : Int)) + (3 : Int)) (3 : Int)) = 5) (false) (mP (False) (true))))))))))) true)) (K 4 (.cons 12 (.sy (.int 0 p.c)) (.cons 11 (.sl 1 0 3 (.ex 3)) (.cons 9 (.ptr 0 0) (.cons 3 (.sy (.imm p.h3 4 StepR p.l3 encS)) .nil)))) (Fk3n p.f p.b0 p.b1 p.b2) 16))) (by kernel_rfl) ?_
 dsimp only [pre_kb3] at hpre
 obtain ⟨g0, g1, g2, g3⟩ := hpre
 have g9 := cntB_le [prB p.b0, prB p.b1, prB p.b2]
 simp only [List.length_cons, List.length_nil] at g9
 have gt : ∀ z : Int, -3 < z.tmod 3 ∧ z.tmod 3 < 3 := tmb 3 (by decide)
 refine iI (fun hc1 => ?_) (fun hc1 => ?_)
 refine mI (by first | omega | (constructor <;> omega)) ?_
 refine allB_mk (fun x1 => ?_)
 refine iI (fun hi2 => ?_) (fun _ => rfl)
 have gu := gt x1
 have gv := tmp 3 (by decide) (Int.tmod x1 3 + 3) (by omega)
 refine mI (by decide) (mI (by simp only [InR]; omega) (mI (by decide) ?_))
 refine iI (fun hc3 => ?_) (fun hc3 => ?_)
 refine iI (fun hc4 => ?_) (fun hc4 => ?_)
 refine mI (by simp only [InR]; omega) (mI (by simp only [InR]; omega) ?_)
 exact bk_kb3 (q := ⟨p.h2, p.l2, p.h3, p.l3, p.f, true = true, p.b1, p.b2, p.c + (1 : Int), p.i + (1 : Int)⟩) (by dsimp only [mu_kb3]; omega) (by dsimp only [pre_kb3]; exact ⟨by rw [g0]; exact cnt_flip [] [prB p.b1, prB p.b2] (by assumption) rfl, by omega, by omega, by omega⟩) hK rfl
 refine mI (by simp only [InR]; omega) ?_
 exact bk_kb3 (q := ⟨p.h2, p.l2, p.h3, p.l3, p.f, p.b0, p.b1, p.b2, p.c, p.i + (1 : Int)⟩) (by dsimp only [mu_kb3]; omega) (by dsimp only [pre_kb3]; exact ⟨g0, by omega, by omega, by omega⟩) hK rfl
 refine iI (fun hc5 => ?_) (fun hc5 => ?_)
 refine iI (fun hc6 => ?_) (fun hc6 => ?_)
 refine mI (by simp only [InR]; omega) (mI (by simp only [InR]; omega) ?_)
 exact bk_kb3 (q := ⟨p.h2, p.l2, p.h3, p.l3, p.f, p.b0, true = true, p.b2, p.c + (1 : Int), p.i + (1 : Int)⟩) (by dsimp only [mu_kb3]; omega) (by dsimp only [pre_kb3]; exact ⟨by rw [g0]; exact cnt_flip [prB p.b0] [prB p.b2] (by assumption) rfl, by omega, by omega, by omega⟩) hK rfl
 refine mI (by simp only [InR]; omega) ?_
 exact bk_kb3 (q := ⟨p.h2, p.l2, p.h3, p.l3, p.f, p.b0, p.b1, p.b2, p.c, p.i + (1 : Int)⟩) (by dsimp only [mu_kb3]; omega) (by dsimp only [pre_kb3]; exact ⟨g0, by omega, by omega, by omega⟩) hK rfl
 refine iI (fun hc7 => ?_) (fun hc7 => ?_)
 refine iI (fun hc8 => ?_) (fun hc8 => ?_)
 refine mI (by simp only [InR]; omega) (mI (by simp only [InR]; omega) ?_)
 exact bk_kb3 (q := ⟨p.h2, p.l2, p.h3, p.l3, p.f, p.b0, p.b1, true = true, p.c + (1 : Int), p.i + (1 : Int)⟩) (by dsimp only [mu_kb3]; omega) (by dsimp only [pre_kb3]; exact ⟨by rw [g0]; exact cnt_flip [prB p.b0, prB p.b1] [] (by assumption) rfl, by omega, by omega, by omega⟩) hK rfl
 refine mI (by simp only [InR]; omega) ?_
 exact bk_kb3 (q := ⟨p.h2, p.l2, p.h3, p.l3, p.f, p.b0, p.b1, p.b2, p.c, p.i + (1 : Int)⟩) (by dsimp only [mu_kb3]; omega) (by dsimp only [pre_kb3]; exact ⟨g0, by omega, by omega, by omega⟩) hK rfl
 refine iI (fun hc9 => ?_) (fun hc9 => ?_)
 exfalso; omega
 refine iI (fun hc10 => ?_) (fun hc10 => ?_)
 exfalso; omega
 refine iI (fun hc11 => ?_) (fun hc11 => ?_)
 exfalso; omega
 refine mI (by omega) ?_
 rfl
 exact fin_kb3 hK ⟨p.b0, p.b1, p.b2, p.c⟩ (by dsimp only [po_kb3] <;> exact ⟨g0, by omega, by omega⟩)
theorem vb_kb4 (p : A_kb4) (K : KC) (hpre : pre_kb4 p) (hK : out_kb4 p K = true) : (codeX (cfT nat_made) lp_rollKeeps 600 bd_kb (I_kb4 p).1 (I_kb4 p).2.1 (I_kb4 p).2.2 (kk_kb (mu_kb (.v4 p)) K)) = true := by
 refine Eq.trans (b := (iP (p.i < (p.l2.length : Int)) (mP (0 ≤ p.i ∧ p.i < (p.l2.length : Int)) (allB fun x1 : Int => iP (p.l2[p.i.toNat]? = some x1) (mP ((4 : Int) ≠ 0) (mP (InR 0 ((Int.tmod x1 (4 : Int)) + (4 : Int))) (mP ((4 : Int) ≠ 0) (iP ((Int.tmod ((Int.tmod x1 (4 : Int)) + (4 : Int)) (4 : Int)) = 0) (iP (¬ p.b0) (mP (InR 0 (p.c + (1 : Int))) (mP (InR 0 (p.i + (1 : Int))) (exB fun q7 : A_kb => mP (((.cons 13 (.sy (.int 0 (p.i + (1 : Int)))) (.cons 12 (.sy (.int 0 (p.c + (1 : Int)))) (.cons 11 (.sl 1 0 4 (.ex 4)) (.cons 9 (.ptr 0 0) (.cons 3 (.sy (.imm p.h3 4 StepR p.l3 encS)) (.cons 2 (.sy (.imm p.h2 1 Int p.l2 encZ)) .nil)))))), (Fk4n p.f (true = true) p.b1 p.b2 p.b3), 20) = I_kb q7 ∧ mu_kb q7 < mu_kb (.v4 p)) (sp_kb q7 K)))) (mP (InR 0 (p.i + (1 : Int))) (exB fun q8 : A_kb => mP (((.cons 13 (.sy (.int 0 (p.i + (1 : Int)))) (.cons 12 (.sy (.int 0 p.c)) (.cons 11 (.sl 1 0 4 (.ex 4)) (.cons 9 (.ptr 0 0) (.cons 3 (.sy (.imm p.h3 4 StepR p.l3 encS)) (.cons 2 (.sy (.imm p.h2 1 Int p.l2 encZ)) .nil)))))), (Fk4n p.f p.b0 p.b1 p.b2 p.b3), 20) = I_kb q8 ∧ mu_kb q8 < mu_kb (.v4 p)) (sp_kb q8 K)))) (iP ((Int.tmod ((Int.tmod x1 (4 : Int)) + (4 : Int)) (4 : Int)) = 1) (iP (¬ p.b1) (mP (InR 0 (p.c + (1 : Int))) (mP (InR 0 (p.i + (1 : Int))) (exB fun q5 : A_kb => mP (((.cons 13 (.sy (.int 0 (p.i + (1 : Int)))) (.cons 12 (.sy (.int 0 (p.c + (1 : Int)))) (.cons 11 (.sl 1 0 4 (.ex 4)) (.cons 9 (.ptr 0 0) (.cons 3 (.sy (.imm p.h3 4 StepR p.l3 encS)) (.cons 2 (.sy (.imm p.h2 1 Int p.l2 encZ)) .nil)))))), (Fk4n p.f p.b0 (true = true) p.b2 p.b3), 20) = I_kb q5 ∧ mu_kb q5 < mu_kb (.v4 p)) (sp_kb q5 K)))) (mP (InR 0 (p.i + (1 : Int))) (exB fun q6 : A_kb => mP (((.cons 13 (.sy (.int 0 (p.i + (1 : Int)))) (.cons 12 (.sy (.int 0 p.c)) (.cons 11 (.sl 1 0 4 (.ex 4)) (.cons 9 (.ptr 0 0) (.cons 3 (.sy (.imm p.h3 4 StepR p.l3 encS)) (.cons 2 (.sy (.imm p.h2 1 Int p.l2 encZ)) .nil)))))), (Fk4n p.f p.b0 p.b1 p.b2 p.b3), 20) = I_kb q6 ∧ mu_kb q6 < mu_kb (.v4 p)) (sp_kb q6 K)))) (iP ((Int.tmod ((Int.tmod x1 (4 : Int)) + (4 : Int)) (4 : Int)) = 2) (iP (¬ p.b2) (mP (InR 0 (p.c + (1 : Int))) (mP (InR 0 (p.i + (1 : Int))) (exB fun q3 : A_kb => mP (((.cons 13 (.sy (.int 0 (p.i + (1 : Int)))) (.cons 12 (.sy (.int 0 (p.c + (1 : Int)))) (.cons 11 (.sl 1 0 4 (.ex 4)) (.cons 9 (.ptr 0 0) (.cons 3 (.sy (.imm p.h3 4 StepR p.l3 encS)) (.cons 2 (.sy (.imm p.h2 1 Int p.l2 encZ)) .nil)))))), (Fk4n p.f p.b0 p.b1 (true = true) p.b3), 20) = I_kb q3 ∧ mu_kb q3 < mu_kb (.v4 p)) (sp_kb q3 K)))) (mP (InR 0 (p.i + (1 : Int))) (exB fun q4 : A_kb => mP (((.cons 13 (.sy (.int 0 (p.i + (1 : Int)))) (.cons 12 (.sy (.int 0 p.c)) (.cons 11 (.sl 1 0 4 (.ex 4)) (.cons 9 (.ptr 0 0) (.cons 3 (.sy (.imm p.h3 4 StepR p.l3 encS)) (.cons 2 (.sy (.imm p.h2 1 Int p.l2 encZ)) .nil)))))), (Fk4n p.f p.b0 p.b1 p.b2 p.b3), 20) = I_kb q4 ∧ mu_kb q4 < mu_kb (.v4 p)) (sp_kb q4 K)))) (iP ((Int.tmod ((Int.tmod x1 (4 : Int)) + (4 : Int)) (4 : Int)) = 3) (iP (¬ p.b3) (mP (InR 0 (p.c + (1 : Int))) (mP (InR 0 (p.i + (1 : Int))) (exB fun q1 : A_kb => mP (((.cons 13 (.sy (.int 0 (p.i + (1 : Int)))) (.cons 12 (.sy (.int 0 (p.c + (1 : Int)))) (.cons 11 (.sl 1 0 4 (.ex 4)) (.cons 9 (.ptr 0 0) (.cons 3 (.sy (.imm p.h3 4 StepR p.l3 encS)) (.cons 2 (.sy (.imm p.h2 1 Int p.l2 encZ)) .nil)))))), (Fk4n p.f p.b0 p.b1 p.b2 (true = true)), 20) = I_kb q1 ∧ mu_kb q1 < mu_kb (.v4 p)) (sp_kb q1 K)))) (mP (InR 0 (p.i + (1 : Int))) (exB fun q2 : A_kb => mP (((.cons 13 (.sy (.int 0 (p.i + (1 : Int)))) (.cons 12 (.sy (.int 0 p.c)) (.cons 11 (.sl 1 0 4 (.ex 4)) (.cons 9 (.ptr 0 0) (.cons 3 (.sy (.imm p.h3 4 StepR p.l3 encS)) (.cons 2 (.sy (.imm p.h2 1 Int p.l2 encZ)) .nil)))))), (Fk4n p.f p.b0 p.b1 p.b2 p.b3), 20) = I_kb q2 ∧ mu_kb q2 < mu_kb (.v4 p)) (sp_kb q2 K)))) (iP ((Int.tmod ((Int.tmod x1 (4 : Int)) + (4 : Int)) (4 : Int)) = 4) (false) (iP ((Int.tmod ((Int.tmod x1 (4 : Int)) + (4 : Int)) (4 : Int)) = 5) (false) (mP (False) (true))))))))))) true)) (K 4 (.cons 12 (.sy (.int 0 p.c)) (.cons 11 (.sl 1 0 4 (.ex 4)) (.cons 9 (.ptr 0 0) (.cons 3 (.sy (.imm p.h3 4 StepR p.l3 encS)) .nil)))) (Fk4n p.f p.b0 p.b1 p.b2 p.b3) 20))) (by kernel_rfl) ?_
 dsimp only [pre_kb4] at hpre
 obtain ⟨g0, g1, g2, g3⟩ := hpre
 have g9 := cntB_le [prB p.b0, prB p.b1, prB p.b2, prB p.b3]
 simp only [List.length_cons, List.length_nil] at g9
 have gt : ∀ z : Int, -4 < z.tmod 4 ∧ z.tmod 4 < 4 := tmb 4 (by decide)
 refine iI (fun hc1 => ?_) (fun hc1 => ?_)
 refine mI (by first | omega | (constructor <;> omega)) ?_
 refine allB_mk (fun x1 => ?_)
 refine iI (fun hi2 => ?_) (fun _ => rfl)
 have gu := gt x1
 have gv := tmp 4 (by decide) (Int.tmod x1 4 + 4) (by omega)
 refine mI (by decide) (mI (by simp only [InR]; omega) (mI (by decide) ?_))
 refine iI (fun hc3 => ?_) (fun hc3 => ?_)
 refine iI (fun hc4 => ?_) (fun hc4 => ?_)
 refine mI (by simp only [InR]; omega) (mI (by simp only [InR]; omega) ?_)
 exact bk_kb4 (q := ⟨p.h2, p.l2, p.h3, p.l3, p.f, true = true, p.b1, p.b2, p.b3, p.c + (1 : Int), p.i + (1 : Int)⟩) (by dsimp only [mu_kb4]; omega) (by dsimp only [pre_kb4]; exact ⟨by rw [g0]; exact cnt_flip [] [prB p.b1, prB p.b2, prB p.b3] (by assumption) rfl, by omega, by omega, by omega⟩) hK rfl
 refine mI (by simp only [InR]; omega) ?_
 exact bk_kb4 (q := ⟨p.h2, p.l2, p.h3, p.l3, p.f, p.b0, p.b1, p.b2, p.b3, p.c, p.i + (1 : Int)⟩) (by dsimp only [mu_kb4]; omega) (by dsimp only [pre_kb4]; exact ⟨g0, by omega, by omega, by omega⟩) hK rfl
 refine iI (fun hc5 => ?_) (fun hc5 => ?_)
 refine iI (fun hc6 => ?_) (fun hc6 => ?_)
 refine mI (by simp only [InR]; omega) (mI (by simp only [InR]; omega) ?_)
 exact bk_kb4 (q := ⟨p.h2, p.l2, p.h3, p.l3, p.f, p.b0, true = true, p.b2, p.b3, p.c + (1 : Int), p.i + (1 : Int)⟩) (by dsimp only [mu_kb4]; omega) (by dsimp only [pre_kb4]; exact ⟨by rw [g0]; exact cnt_flip [prB p.b0] [prB p.b2, prB p.b3] (by assumption) rfl, by omega, by omega, by omega⟩) hK rfl
 refine mI (by simp only [InR]; omega) ?_
 exact bk_kb4 (q := ⟨p.h2, p.l2, p.h3, p.l3, p.f, p.b0, p.b1, p.b2, p.b3, p.c, p.i + (1 : Int)⟩) (by dsimp only [mu_kb4]; omega) (by dsimp only [pre_kb4]; exact ⟨g0, by omega, by omega, by omega⟩) hK rfl
 refine iI (fun hc7 => ?_) (fun hc7 => ?_)
 refine iI (fun hc8 => ?_) (fun hc8 => ?_)
 refine mI (by simp only [InR]; omega) (mI (by simp only [InR]; omega) ?_)
 exact bk_kb4 (q := ⟨p.h2, p.l2, p.h3, p.l3, p.f, p.b0, p.b1, true = true, p.b3, p.c + (1 : Int), p.i + (1 : Int)⟩) (by dsimp only [mu_kb4]; omega) (by dsimp only [pre_kb4]; exact ⟨by rw [g0]; exact cnt_flip [prB p.b0, prB p.b1] [prB p.b3] (by assumption) rfl, by omega, by omega, by omega⟩) hK rfl
 refine mI (by simp only [InR]; omega) ?_
 exact bk_kb4 (q := ⟨p.h2, p.l2, p.h3, p.l3, p.f, p.b0, p.b1, p.b2, p.b3, p.c, p.i + (1 : Int)⟩) (by dsimp only [mu_kb4]; omega) (by dsimp only [pre_kb4]; exact ⟨g0, by omega, by omega, by omega⟩) hK rfl
 refine iI (fun hc9 => ?_) (fun hc9 => ?_)
 refine iI (fun hc10 => ?_) (fun hc10 => ?_)
 refine mI (by simp only [InR]; omega) (mI (by simp only [InR]; omega) ?_)
 exact bk_kb4 (q := ⟨p.h2, p.l2, p.h3, p.l3, p.f, p.b0, p.b1, p.b2, true = true, p.c + (1 : Int), p.i + (1 : Int)⟩) (by dsimp only [mu_kb4]; omega) (by dsimp only [pre_kb4]; exact ⟨by rw [g0]; exact cnt_flip [prB p.b0, prB p.b1, prB p.b2] [] (by assumption) rfl, by omega, by omega, by omega⟩) hK rfl
 refine mI (by simp only [InR]; omega) ?_
 exact bk_kb4 (q := ⟨p.h2, p.l2, p.h3, p.l3, p.f, p.b0, p.b1, p.b2, p.b3, p.c, p.i + (1 : Int)⟩) (by dsimp only [mu_kb4]; omega) (by dsimp only [pre_kb4]; exact ⟨g0, by omega, by omega, by omega⟩) hK rfl
 refine iI (fun hc11 => ?_) (fun hc11 => ?_)
 exfalso; omega
 refine iI (fun hc12 => ?_) (fun hc12 => ?_)
 exfalso; omega
 refine mI (by omega) ?_
 rfl
 exact fin_kb4 hK ⟨p.b0, p.b1, p.b2, p.b3, p.c⟩ (by dsimp only [po_kb4] <;> exact ⟨g0, by omega, by omega⟩)
theorem vb_kb5 (p : A_kb5) (K : KC) (hpre : pre_kb5 p) (hK : out_kb5 p K = true) : (codeX (cfT nat_made) lp_rollKeeps 600 bd_kb (I_kb5 p).1 (I_kb5 p).2.1 (I_kb5 p).2.2 (kk_kb (mu_kb (.v5 p)) K)) = true := by
 refine Eq.trans (b := (iP (p.i < (p.l2.length : Int)) (mP (0 ≤ p.i ∧ p.i < (p.l2.length : Int)) (allB fun x1 : Int => iP (p.l2[p.i.toNat]? = some x1) (mP ((5 : Int) ≠ 0) (mP (InR 0 ((Int.tmod x1 (5 : Int)) + (5 : Int))) (mP ((5 : Int) ≠ 0) (iP ((Int.tmod ((Int.tmod x1 (5 : Int)) + (5 : Int)) (5 : Int)) = 0) (iP (¬ p.b0) (mP (InR 0 (p.c + (1 : Int))) (mP (InR 0 (p.i + (1 : Int))) (exB fun q9 : A_kb => mP (((.cons 13 (.sy (.int 0 (p.i + (1 : Int)))) (.cons 12 (.sy (.int 0 (p.c + (1 : Int)))) (.cons 11 (.sl 1 0 5 (.ex 5)) (.cons 9 (.ptr 0 0) (.cons 3 (.sy (.imm p.h3 4 StepR p.l3 encS)) (.cons 2 (.sy (.imm p.h2 1 Int p.l2 encZ)) .nil)))))), (Fk5n p.f (true = true) p.b1 p.b2 p.b3 p.b4), 24) = I_kb q9 ∧ mu_kb q9 < mu_kb (.v5 p)) (sp_kb q9 K)))) (mP (InR 0 (p.i + (1 : Int))) (exB fun q10 : A_kb => mP (((.cons 13 (.sy (.int 0 (p.i + (1 : Int)))) (.cons 12 (.sy (.int 0 p.c)) (.cons 11 (.sl 1 0 5 (.ex 5)) (.cons 9 (.ptr 0 0) (.cons 3 (.sy (.imm p.h3 4 StepR p.l3 encS)) (.cons 2 (.sy (.imm p.h2 1 Int p.l2 encZ)) .nil)))))), (Fk5n p.f p.b0 p.b1 p.b2 p.b3 p.b4), 24) = I_kb q10 ∧ mu_kb q10 < mu_kb (.v5 p)) (sp_kb q10 K)))) (iP ((Int.tmod ((Int.tmod x1 (5 : Int)) + (5 : Int)) (5 : Int)) = 1) (iP (¬ p.b1) (mP (InR 0 (p.c + (1 : Int))) (mP (InR 0 (p.i + (1 : Int))) (exB fun q7 : A_kb => mP (((.cons 13 (.sy (.int 0 (p.i + (1 : Int)))) (.cons 12 (.sy (.int 0 (p.c + (1 : Int)))) (.cons 11 (.sl 1 0 5 (.ex 5)) (.cons 9 (.ptr 0 0) (.cons 3 (.sy (.imm p.h3 4 StepR p.l3 encS)) (.cons 2 (.sy (.imm p.h2 1 Int p.l2 encZ)) .nil)))))), (Fk5n p.f p.b0 (true = true) p.b2 p.b3 p.b4), 24) = I_kb q7 ∧ mu_kb q7 < mu_kb (.v5 p)) (sp_kb q7 K)))) (mP (InR 0 (p.i + (1 : Int))) (exB fun q8 : A_kb => mP (((.cons 13 (.sy (.int 0 (p.i + (1 : Int)))) (.cons 12 (.sy (.int 0 p.c)) (.cons 11 (.sl 1 0 5 (.ex 5)) (.cons 9 (.ptr 0 0) (.cons 3 (.sy (.imm p.h3 4 StepR p.l3 encS)) (.cons 2 (.sy (.imm p.h2 1 Int p.l2 encZ)) .nil)))))), (Fk5n p.f p.b0 p.b1 p.b2 p.b3 p.b4), 24) = I_kb q8 ∧ mu_kb q8 < mu_kb (.v5 p)) (sp_kb q8 K)))) (iP ((Int.tmod ((Int.tmod x1 (5 : Int)) + (5 : Int)) (5 : Int)) = 2) (iP (¬ p.b2) (mP (InR 0 (p.c + (1 : Int))) (mP (InR 0 (p.i + (1 : Int))) (exB fun q5 : A_kb => mP (((.cons 13 (.sy (.int 0 (p.i + (1 : Int)))) (.cons 12 (.sy (.int 0 (p.c + (1 : Int)))) (.cons 11 (.sl 1 0 5 (.ex 5)) (.cons 9 (.ptr 0 0) (.cons 3 (.sy (.imm p.h3 4 StepR p.l3 encS)) (.cons 2 (.sy (.imm p.h2 1 Int p.l2 encZ)) .nil)))))), (Fk5n p.f p.b0 p.b1 (true = true) p.b3 p.b4), 24) = I_kb q5 ∧ mu_kb q5 < mu_kb (.v5 p)) (sp_kb q5 K)))) (mP (InR 0 (p.i + (1 : Int))) (exB fun q6 : A_kb => mP (((.cons 13 (.sy (.int 0 (p.i + (1 : Int)))) (.cons 12 (.sy (.int 0 p.c)) (.cons 11 (.sl 1 0 5 (.ex 5)) (.cons 9 (.ptr 0 0) (.cons 3 (.sy (.imm p.h3 4 StepR p.l3 encS)) (.cons 2 (.sy (.imm p.h2 1 Int p.l2 encZ)) .nil)))))), (Fk5n p.f p.b0 p.b1 p.b2 p.b3 p.b4), 24) = I_kb q6 ∧ mu_kb q6 < mu_kb (.v5 p)) (sp_kb q6 K)))) (iP ((Int.tmod ((Int.tmod x1 (5 : Int)) + (5 : Int)) (5 : Int)) = 3) (iP (¬ p.b3) (mP (InR 0 (p.c + (1 : Int))) (mP (InR 0 (p.i + (1 : Int))) (exB fun q3 : A_kb => mP (((.cons 13 (.sy (.int 0 (p.i + (1 : Int)))) (.cons 12 (.sy (.int 0 (p.c + (1 : Int)))) (.cons 11 (.sl 1 0 5 (.ex 5)) (.cons 9 (.ptr 0 0) (.cons 3 (.sy (.imm p.h3 4 StepR p.l3 encS)) (.cons 2 (.sy (.imm p.h2 1 Int p.l2 encZ)) .nil)))))), (Fk5n p.f p.b0 p.b1 p.b2 (true = true) p.b4), 24) = I_kb q3 ∧ mu_kb q3 < mu_kb (.v5 p)) (sp_kb q3 K)))) (mP (InR 0 (p.i + (1 : Int))) (exB fun q4 : A_kb => mP (((.cons 13 (.sy (.int 0 (p.i + (1 : Int)))) (.cons 12 (.sy (.int 0 p.c)) (.cons 11 (.sl 1 0 5 (.ex 5)) (.cons 9 (.ptr 0 0) (.cons 3 (.sy (.imm p.h3 4 StepR p.l3 encS)) (.cons 2 (.sy (.imm p.h2 1 Int p.l2 encZ)) .nil)))))), (Fk5n p.f p.b0 p.b1 p.b2 p.b3 p.b4), 24) = I_kb q4 ∧ mu_kb q4 < mu_kb (.v5 p)) (sp_kb q4 K)))) (iP ((Int.tmod ((Int.tmod x1 (5 : Int)) + (5 : Int)) (5 : Int)) = 4) (iP (¬ p.b4) (mP (InR 0 (p.c + (1 : Int))) (mP (InR 0 (p.i + (1 : Int))) (exB fun q1 : A_kb => mP (((.cons 13 (.sy (.int 0 (p.i + (1 : Int)))) (.cons 12 (.sy (.int 0 (p.c + (1 : Int)))) (.cons 11 (.sl 1 0 5 (.ex 5)) (.cons 9 (.ptr 0 0) (.cons 3 (.sy (.imm p.h3 4 StepR p.l3 encS)) (.cons 2 (.sy (.imm p.h2 1 Int p.l2 encZ)) .nil)))))), (Fk5n p.f p.b0 p.b1 p.b2 p.b3 (true = true)), 24) = I_kb q1 ∧ mu_kb q1 < mu_kb (.v5 p)) (sp_kb q1 K)))) (mP (InR 0 (p.i + (1 : Int))) (exB fun q2 : A_kb => mP (((.cons 13 (.sy (.int 0 (p.i + (1 : Int)))) (.cons 12 (.sy (.int 0 p.c)) (.cons 11 (.sl 1 0 5 (.ex 5)) (.cons 9 (.ptr 0 0) (.cons 3 (.sy (.imm p.h3 4 StepR p.l3 encS)) (.cons 2 (.sy (.imm p.h2 1 Int p.l2 encZ)) .nil)))))), (Fk5n p.f p.b0 p.b1 p.b2 p.b3 p.b4), 24) = I_kb q2 ∧ mu_kb q2 < mu_kb (.v5 p)) (sp_kb q2 K)))) (iP ((Int.tmod ((Int.tmod x1 (5 : Int)) + (5 : Int)) (5 : Int)) = 5) (false) (mP (False) (true))))))))))) true)) (K 4 (.cons 12 (.sy (.int 0 p.c)) (.cons 11 (.sl 1 0 5 (.ex 5)) (.cons 9 (.ptr 0 0) (.cons 3 (.sy (.imm p.h3 4 StepR p.l3 encS)) .nil)))) (Fk5n p.f p.b0 p.b1 p.b2 p.b3 p.b4) 24))) (by kernel_rfl) ?_
 dsimp only [pre_kb5] at hpre
 obtain ⟨g0, g1, g2, g3⟩ := hpre
 have g9 := cntB_le [prB p.b0, prB p.b1, prB p.b2, prB p.b3, prB p.b4]
 simp only [List.length_cons, List.length_nil] at g9
 have gt : ∀ z : Int, -5 < z.tmod 5 ∧ z.tmod 5 < 5 := tmb 5 (by decide)
 refine iI (fun hc1 => ?_) (fun hc1 => ?_)
 refine mI (by first | omega | (constructor <;> omega)) ?_
 refine allB_mk (fun x1 => ?_)
 refine iI (fun hi2 => ?_) (fun _ => rfl)
 have gu := gt x1
 have gv := tmp 5 (by decide) (Int.tmod x1 5 + 5) (by omega)
 refine mI (by decide) (mI (by simp only [InR]; omega) (mI (by decide) ?_))
 refine iI (fun hc3 => ?_) (fun hc3 => ?_)
 refine iI (fun hc4 => ?_) (fun hc4 => ?_)
 refine mI (by simp only [InR]; omega) (mI (by simp only [InR]; omega) ?_)
 exact bk_kb5 (q := ⟨p.h2, p.l2, p.h3, p.l3, p.f, true = true, p.b1, p.b2, p.b3, p.b4, p.c + (1 : Int), p.i + (1 : Int)⟩) (by dsimp only [mu_kb5]; omega) (by dsimp only [pre_kb5]; exact ⟨by rw [g0]; exact cnt_flip [] [prB p.b1, prB p.b2, prB p.b3, prB p.b4] (by assumption) rfl, by omega, by omega, by omega⟩) hK rfl
 refine mI (by simp only [InR]; omega) ?_
 exact bk_kb5 (q := ⟨p.h2, p.l2, p.h3, p.l3, p.f, p.b0, p.b1, p.b2, p.b3, p.b4, p.c, p.i + (1 : Int)⟩) (by dsimp only [mu_kb5]; omega) (by dsimp only [pre_kb5]; exact ⟨g0, by omega, by omega, by omega⟩) hK rfl
 refine iI (fun hc5 => ?_) (fun hc5 => ?_)
 refine iI (fun hc6 => ?_) (fun hc6 => ?_)
 refine mI (by simp only [InR]; omega) (mI (by simp only [InR]; omega) ?_)
 exact bk_kb5 (q := ⟨p.h2, p.l2, p.h3, p.l3, p.f, p.b0, true = true, p.b2, p.b3, p.b4, p.c + (1 : Int), p.i + (1 : Int)⟩) (by dsimp only [mu_kb5]; omega) (by dsimp only [pre_kb5]; exact ⟨by rw [g0]; exact cnt_flip [prB p.b0] [prB p.b2, prB p.b3, prB p.b4] (by assumption) rfl, by omega, by omega, by omega⟩) hK rfl
 refine mI (by simp only [InR]; omega) ?_
 exact bk_kb5 (q := ⟨p.h2, p.l2, p.h3, p.l3, p.f, p.b0, p.b1, p.b2, p.b3, p.b4, p.c, p.i + (1 : Int)⟩) (by dsimp only [mu_kb5]; omega) (by dsimp only [pre_kb5]; exact ⟨g0, by omega, by omega, by omega⟩) hK rfl
 refine iI (fun hc7 => ?_) (fun hc7 => ?_)
 refine iI (fun hc8 => ?_) (fun hc8 => ?_)
 refine mI (by simp only [InR]; omega) (mI (by simp only [InR]; omega) ?_)
 exact bk_kb5 (q := ⟨p.h2, p.l2, p.h3, p.l3, p.f, p.b0, p.b1, true = true, p.b3, p.b4, p.c + (1 : Int), p.i + (1 : Int)⟩) (by dsimp only [mu_kb5]; omega) (by dsimp only [pre_kb5]; exact ⟨by rw [g0]; exact cnt_flip [prB p.b0, prB p.b1] [prB p.b3, prB p.b4] (by assumption) rfl, by omega, by omega, by omega⟩) hK rfl
 refine mI (by simp only [InR]; omega) ?_
 exact bk_kb5 (q := ⟨p.h2, p.l2, p.h3, p.l3, p.f, p.b0, p.b1, p.b2, p.b3, p.b4, p.c, p.i + (1 : Int)⟩) (by dsimp only [mu_kb5]; omega) (by dsimp only [pre_kb5]; exact ⟨g0, by omega, by omega, by omega⟩) hK rfl
 refine iI (fun hc9 => ?_) (fun hc9 => ?_)
 refine iI (fun hc10 => ?_) (fun hc10 => ?_)
 refine mI (by simp only [InR]; omega) (mI (by simp only [InR]; omega) ?_)
 exact bk_kb5 (q := ⟨p.h2, p.l2, p.h3, p.l3, p.f, p.b0, p.b1, p.b2, true = true, p.b4, p.c + (1 : Int), p.i + (1 : Int)⟩) (by dsimp only [mu_kb5]; omega) (by dsimp only [pre_kb5]; exact ⟨by rw [g0]; exact cnt_flip [prB p.b0, prB p.b1, prB p.b2] [prB p.b4] (by assumption) rfl, by omega, by omega, by omega⟩) hK rfl
 refine mI (by simp only [InR]; omega) ?_
 exact bk_kb5 (q := ⟨p.h2, p.l2, p.h3, p.l3, p.f, p.b0, p.b1, p.b2, p.b3, p.b4, p.c, p.i + (1 : Int)⟩) (by dsimp only [mu_kb5]; omega) (by dsimp only [pre_kb5]; exact ⟨g0, by omega, by omega, by omega⟩) hK rfl
 refine iI (fun hc11 => ?_) (fun hc11 => ?_)
 refine iI (fun hc12 => ?_) (fun hc12 => ?_)
 refine mI (by simp only [InR]; omega) (mI (by simp only [InR]; omega) ?_)
 exact bk_kb5 (q := ⟨p.h2, p.l2, p.h3, p.l3, p.f, p.b0, p.b1, p.b2, p.b3, true = true, p.c + (1 : Int), p.i + (1 : Int)⟩) (by dsimp only [mu_kb5]; omega) (by dsimp only [pre_kb5]; exact ⟨by rw [g0]; exact cnt_flip [prB p.b0, prB p.b1, prB p.b2, prB p.b3] [] (by assumption) rfl, by omega, by omega, by omega⟩) hK rfl
 refine mI (by simp only [InR]; omega) ?_
 exact bk_kb5 (q := ⟨p.h2, p.l2, p.h3, p.l3, p.f, p.b0, p.b1, p.b2, p.b3, p.b4, p.c, p.i + (1 : Int)⟩) (by dsimp only [mu_kb5]; omega) (by dsimp only [pre_kb5]; exact ⟨g0, by omega, by omega, by omega⟩) hK rfl
 refine iI (fun hc13 => ?_) (fun hc13 => ?_)
 exfalso; omega
 refine mI (by omega) ?_
 rfl
 exact fin_kb5 hK ⟨p.b0, p.b1, p.b2, p.b3, p.b4, p.c⟩ (by dsimp only [po_kb5] <;> exact ⟨g0, by omega, by omega⟩)
theorem lo_kb : LpOk Try.prog 153 0 lp_rollKeeps true 1 bd_kb := by
 refine lp_of (lf := 600) tb_mix (cfT_ok nat_made_ok) (by rfl) I_kb mu_kb sp_kb (fun b j x h => by cases h) (fun S M nx K h => ?_) (fun p K h => ?_)
 ·have h : lpv_kb S M nx K = true := h
  unfold lpv_kb at h
  rcases var_ok h with ⟨_, h⟩ | ⟨_, h⟩
  ·obtain ⟨p, h⟩ := exB_ok h; exact ⟨.v1 p, (mustP_ok h).1, (mustP_ok h).2⟩
  rcases var_ok h with ⟨_, h⟩ | ⟨_, h⟩
  ·obtain ⟨p, h⟩ := exB_ok h; exact ⟨.v2 p, (mustP_ok h).1, (mustP_ok h).2⟩
  rcases var_ok h with ⟨_, h⟩ | ⟨_, h⟩
  ·obtain ⟨p, h⟩ := exB_ok h; exact ⟨.v3 p, (mustP_ok h).1, (mustP_ok h).2⟩
  rcases var_ok h with ⟨_, h⟩ | ⟨_, h⟩
  ·obtain ⟨p, h⟩ := exB_ok h; exact ⟨.v4 p, (mustP_ok h).1, (mustP_ok h).2⟩
  rcases var_ok h with ⟨_, h⟩ | ⟨_, h⟩
  ·obtain ⟨p, h⟩ := exB_ok h; exact ⟨.v5 p, (mustP_ok h).1, (mustP_ok h).2⟩
  cases h
 ·cases p with
  | v1 p => have h : sp_kb1 p K = true := h; exact vb_kb1 p K (mustP_ok h).1 (mustP_ok h).2
  | v2 p => have h : sp_kb2 p K = true := h; exact vb_kb2 p K (mustP_ok h).1 (mustP_ok h).2
  | v3 p => have h : sp_kb3 p K = true := h; exact vb_kb3 p K (mustP_ok h).1 (mustP_ok h).2
  | v4 p => have h : sp_kb4 p K = true := h; exact vb_kb4 p K (mustP_ok h).1 (mustP_ok h).2
  | v5 p => have h : sp_kb5 p K = true := h; exact vb_kb5 p K (mustP_ok h).1 (mustP_ok h).2
def bd_kc : XC := (.aft (.seq (.seq (.pre [.fix 16 6] (g_ 4 [p_ 0 91 (m_ 16), p_ 1 92 (m_ 11), p_ 2 93 (k_ 92), p_ 3 94 (.bin 3 0 (.t 91) (.t 93))])) (.cond (.t 94) .skip (.exit 6))) (.seq (.block 7 (.seq (g_ 4 [p_ 0 97 (m_ 11), p_ 1 98 (m_ 16), p_ 2 99 (.ixs 1 (.t 97) (.t 98)), r_ 3 100 (l_ 99)]) (.cond (.t 100) (.seq (g_ 8 [p_ 0 101 (m_ 9), p_ 1 102 (n_ 101), p_ 2 103 (f_ 0 102), r_ 3 104 (l_ 103), p_ 4 105 (m_ 16), p_ 5 106 (.ixs 1 (.t 104) (.t 105)), r_ 6 107 (l_ 106), c_ 7 108 18 [.t 107]]) (g_ 12 [p_ 0 109 (m_ 15), p_ 1 110 (m_ 9), p_ 2 111 (n_ 110), p_ 3 112 (f_ 0 111), r_ 4 113 (l_ 112), p_ 5 114 (m_ 16), p_ 6 115 (.ixs 1 (.t 113) (.t 114)), r_ 7 116 (l_ 115), c_ 8 117 24 [.t 116], p_ 9 118 (k_ 117), p_ 10 119 (.mx true (.t 109) (.t 118)), p_ 11 15 (m_ 119)])) .skip))) (g_ 3 [p_ 0 95 (m_ 16), p_ 1 96 (.bin 0 0 (.t 95) (i_ 1)), p_ 2 16 (m_ 96)]))) [(0, [.up 16, .upc 4 0 8, .upc 5 0 8, .upc 6 0 8, .upc 7 0 8, .upc 8 0 8, .can 0 [3, 9, 11, 15, 16]]), (6, [.can 0 [3, 9, 15]])])
theorem vb_kc1 (p : A_kc1) (K : KC) (hpre : pre_kc1 p) (hK : out_kc1 p K = true) : (codeX (cfT nat_made) lp_rollKeeps 600 bd_kc (I_kc1 p).1 (I_kc1 p).2.1 (I_kc1 p).2.2 (kk_kc (mu_kc (.v1 p)) K)) = true := by
 refine Eq.trans (b := (let z0 : Bool := (K 6 (.cons 15 (.sy (.int 0 p.L)) (.cons 9 (.ptr 0 0) (.cons 3 (.sy (.imm p.h3 4 StepR p.l3 encS)) .nil))) (Fd1n p.f) 7); iP (p.i = 0) (iP (p.b0) (mP (p.f.s0.l.length = p.f.s0.l.length ∧ 0 ≤ (0 : Int) ∧ (0 : Int) ≤ (p.f.s0.l.length : Int) ∧ (p.f.s0.l.length : Int) ≤ (p.f.s0.l.length : Int)) (useC (([.sy (.psub 0 18 0 (p.f.s0.l.length - 0))], (.node .leaf (some (.prow 45 18 Int p.f.s0.l encK)) .leaf), 1)) I_clones_psub pre_clones_psub po_clones_psub fun p1 r1 => exB fun q1 : A_kc => mP (((.cons 16 (.sy (.int 0 1)) (.cons 15 (.sy (.int 0 (max p.L (r1.o.length : Int)))) (.cons 11 (.sl 1 0 1 (.ex 1)) (.cons 9 (.ptr 0 0) (.cons 3 (.sy (.imm p.h3 4 StepR p.l3 encS)) .nil))))), (Fk1 ({ p.f with s0 := ⟨p1.l, p.f.s0.com, true = true⟩ } : F1) p.b0 p.f.fly.length p.f.s0.l.length), 8) = I_kc q1 ∧ mu_kc q1 < mu_kc (.v1 p)) (sp_kc q1 K))) (exB fun q2 : A_kc => mP (((.cons 16 (.sy (.int 0 1)) (.cons 15 (.sy (.int 0 p.L)) (.cons 11 (.sl 1 0 1 (.ex 1)) (.cons 9 (.ptr 0 0) (.cons 3 (.sy (.imm p.h3 4 StepR p.l3 encS)) .nil))))), (Fk1n p.f p.b0), 8) = I_kc q2 ∧ mu_kc q2 < mu_kc (.v1 p)) (sp_kc q2 K))) (iP (p.i = 1) z0 (iP (p.i = 2) z0 (iP (p.i = 3) z0 (iP (p.i = 4) z0 (iP (p.i = 5) z0 (mP (False) (true))))))))) (by kernel_rfl) ?_
 dsimp only [pre_kc1] at hpre
 obtain ⟨g0, g1, g2, g3, g4, g5, g6⟩ := hpre
 obtain ⟨hs, hfew, f0⟩ := fact1 g0
 refine iI (fun hc1 => ?_) (fun hc1 => ?_)
 refine iI (fun hc2 => ?_) (fun hc2 => ?_)
 refine mI (by (first | omega | (simp [limP] <;> omega))) ?_
 refine callPR (⟨p.f.s0.l, (0 : Nat), p.f.s0.l.length - 0⟩ : A_clones_psub) rfl (by (try dsimp only [pre_clones_psub]); first | omega | (simp only [List.length_take, List.length_drop]; omega)) fun r1 hi3 => ?_
 dsimp only [po_clones_psub] at hi3
 exact bk_kc1 (q := ⟨p.h3, p.l3, ({ p.f with s0 := ⟨p.f.s0.l, p.f.s0.com, true = true⟩ } : F1), p.b0, max p.L (r1.o.length : Int), (1 : Int)⟩) (by dsimp only [mu_kc1]; omega) (by dsimp only [pre_kc1]; first | (exfalso; omega) | exact ⟨tr_shut g0 _, g1, g2, g3, by omega, by omega, by have e := shut_yes (k := 0) (l := p.f.s0.l) (rs' := [⟨p.f.s0.l, p.f.s0.com, true = true⟩]) (p := true = true) (L' := max p.L (r1.o.length : Int)) g6 (by omega) rfl rfl rfl (by first | omega | (simp; omega)); rw [show p.i + 1 = 1 by omega] at e; exact e⟩) hK rfl
 exact bk_kc1 (q := ⟨p.h3, p.l3, p.f, p.b0, p.L, (1 : Int)⟩) (by dsimp only [mu_kc1]; omega) (by dsimp only [pre_kc1]; first | (exfalso; omega) | exact ⟨g0, g1, g2, g3, by omega, by omega, by have e := shut_no (k := 0) g6 (by omega) (by simp [prB_f (by assumption)]); rw [show p.i + 1 = 1 by omega] at e; exact e⟩) hK rfl
 refine iI (fun hc4 => ?_) (fun hc4 => ?_)
 exact fin_kc1 hK ⟨p.f, p.L⟩ (by dsimp only [po_kc1] <;> (first | (exfalso; omega) | exact ⟨g0, g1, g2, [prB p.b0], rfl, g3, by have e : p.i = 1 := (by omega); rw [e] at g6; exact g6⟩))
 refine iI (fun hc5 => ?_) (fun hc5 => ?_)
 exact fin_kc1 hK ⟨p.f, p.L⟩ (by dsimp only [po_kc1] <;> (first | (exfalso; omega) | exact ⟨g0, g1, g2, [prB p.b0], rfl, g3, by have e : p.i = 1 := (by omega); rw [e] at g6; exact g6⟩))
 refine iI (fun hc6 => ?_) (fun hc6 => ?_)
 exact fin_kc1 hK ⟨p.f, p.L⟩ (by dsimp only [po_kc1] <;> (first | (exfalso; omega) | exact ⟨g0, g1, g2, [prB p.b0], rfl, g3, by have e : p.i = 1 := (by omega); rw [e] at g6; exact g6⟩))
 refine iI (fun hc7 => ?_) (fun hc7 => ?_)
 exact fin_kc1 hK ⟨p.f, p.L⟩ (by dsimp only [po_kc1] <;> (first | (exfalso; omega) | exact ⟨g0, g1, g2, [prB p.b0], rfl, g3, by have e : p.i = 1 := (by omega); rw [e] at g6; exact g6⟩))
 refine iI (fun hc8 => ?_) (fun hc8 => ?_)
 exact fin_kc1 hK ⟨p.f, p.L⟩ (by dsimp only [po_kc1] <;> (first | (exfalso; omega) | exact ⟨g0, g1, g2, [prB p.b0], rfl, g3, by have e : p.i = 1 := (by omega); rw [e] at g6; exact g6⟩))
 refine mI (by omega) ?_
 rfl
theorem vb_kc2 (p : A_kc2) (K : KC) (hpre : pre_kc2 p) (hK : out_kc2 p K = true) : (codeX (cfT nat_made) lp_rollKeeps 600 bd_kc (I_kc2 p).1 (I_kc2 p).2.1 (I_kc2 p).2.2 (kk_kc (mu_kc (.v2 p)) K)) = true := by
 refine Eq.trans (b := (let z0 : Bool := (K 6 (.cons 15 (.sy (.int 0 p.L)) (.cons 9 (.ptr 0 0) (.cons 3 (.sy (.imm p.h3 4 StepR p.l3 encS)) .nil))) (Fd2n p.f) 11); iP (p.i = 0) (iP (p.b0) (mP (p.f.s0.l.length = p.f.s0.l.length ∧ 0 ≤ (0 : Int) ∧ (0 : Int) ≤ (p.f.s0.l.length : Int) ∧ (p.f.s0.l.length : Int) ≤ (p.f.s0.l.length : Int)) (useC (([.sy (.psub 0 18 0 (p.f.s0.l.length - 0))], (.node .leaf (some (.prow 45 18 Int p.f.s0.l encK)) .leaf), 1)) I_clones_psub pre_clones_psub po_clones_psub fun p2 r2 => exB fun q3 : A_kc => mP (((.cons 16 (.sy (.int 0 1)) (.cons 15 (.sy (.int 0 (max p.L (r2.o.length : Int)))) (.cons 11 (.sl 1 0 2 (.ex 2)) (.cons 9 (.ptr 0 0) (.cons 3 (.sy (.imm p.h3 4 StepR p.l3 encS)) .nil))))), (Fk2 ({ p.f with s0 := ⟨p2.l, p.f.s0.com, true = true⟩ } : F2) p.b0 p.b1 p.f.fly.length p.f.s0.l.length p.f.s1.l.length), 12) = I_kc q3 ∧ mu_kc q3 < mu_kc (.v2 p)) (sp_kc q3 K))) (exB fun q4 : A_kc => mP (((.cons 16 (.sy (.int 0 1)) (.cons 15 (.sy (.int 0 p.L)) (.cons 11 (.sl 1 0 2 (.ex 2)) (.cons 9 (.ptr 0 0) (.cons 3 (.sy (.imm p.h3 4 StepR p.l3 encS)) .nil))))), (Fk2n p.f p.b0 p.b1), 12) = I_kc q4 ∧ mu_kc q4 < mu_kc (.v2 p)) (sp_kc q4 K))) (iP (p.i = 1) (iP (p.b1) (mP (p.f.s1.l.length = p.f.s1.l.length ∧ 0 ≤ (0 : Int) ∧ (0 : Int) ≤ (p.f.s1.l.length : Int) ∧ (p.f.s1.l.length : Int) ≤ (p.f.s1.l.length : Int)) (useC (([.sy (.psub 0 18 0 (p.f.s1.l.length - 0))], (.node .leaf (some (.prow 45 18 Int p.f.s1.l encK)) .leaf), 1)) I_clones_psub pre_clones_psub po_clones_psub fun p1 r1 => exB fun q1 : A_kc => mP (((.cons 16 (.sy (.int 0 2)) (.cons 15 (.sy (.int 0 (max p.L (r1.o.length : Int)))) (.cons 11 (.sl 1 0 2 (.ex 2)) (.cons 9 (.ptr 0 0) (.cons 3 (.sy (.imm p.h3 4 StepR p.l3 encS)) .nil))))), (Fk2 ({ p.f with s1 := ⟨p1.l, p.f.s1.com, true = true⟩ } : F2) p.b0 p.b1 p.f.fly.length p.f.s0.l.length p.f.s1.l.length), 12) = I_kc q1 ∧ mu_kc q1 < mu_kc (.v2 p)) (sp_kc q1 K))) (exB fun q2 : A_kc => mP (((.cons 16 (.sy (.int 0 2)) (.cons 15 (.sy (.int 0 p.L)) (.cons 11 (.sl 1 0 2 (.ex 2)) (.cons 9 (.ptr 0 0) (.cons 3 (.sy (.imm p.h3 4 StepR p.l3 encS)) .nil))))), (Fk2n p.f p.b0 p.b1), 12) = I_kc q2 ∧ mu_kc q2 < mu_kc (.v2 p)) (sp_kc q2 K))) (iP (p.i = 2) z0 (iP (p.i = 3) z0 (iP (p.i = 4) z0 (iP (p.i = 5) z0 (mP (False) (true))))))))) (by kernel_rfl) ?_
 dsimp only [pre_kc2] at hpre
 obtain ⟨g0, g1, g2, g3, g4, g5, g6⟩ := hpre
 obtain ⟨hs, hfew, f0, f1⟩ := fact2 g0
 refine iI (fun hc1 => ?_) (fun hc1 => ?_)
 refine iI (fun hc2 => ?_) (fun hc2 => ?_)
 refine mI (by (first | omega | (simp [limP] <;> omega))) ?_
 refine callPR (⟨p.f.s0.l, (0 : Nat), p.f.s0.l.length - 0⟩ : A_clones_psub) rfl (by (try dsimp only [pre_clones_psub]); first | omega | (simp only [List.length_take, List.length_drop]; omega)) fun r2 hi3 => ?_
 dsimp only [po_clones_psub] at hi3
 exact bk_kc2 (q := ⟨p.h3, p.l3, ({ p.f with s0 := ⟨p.f.s0.l, p.f.s0.com, true = true⟩ } : F2), p.b0, p.b1, max p.L (r2.o.length : Int), (1 : Int)⟩) (by dsimp only [mu_kc2]; omega) (by dsimp only [pre_kc2]; first | (exfalso; omega) | exact ⟨tr_shut g0 _, g1, g2, g3, by omega, by omega, by have e := shut_yes (k := 0) (l := p.f.s0.l) (rs' := [⟨p.f.s0.l, p.f.s0.com, true = true⟩, p.f.s1]) (p := true = true) (L' := max p.L (r2.o.length : Int)) g6 (by omega) rfl rfl rfl (by first | omega | (simp; omega)); rw [show p.i + 1 = 1 by omega] at e; exact e⟩) hK rfl
 exact bk_kc2 (q := ⟨p.h3, p.l3, p.f, p.b0, p.b1, p.L, (1 : Int)⟩) (by dsimp only [mu_kc2]; omega) (by dsimp only [pre_kc2]; first | (exfalso; omega) | exact ⟨g0, g1, g2, g3, by omega, by omega, by have e := shut_no (k := 0) g6 (by omega) (by simp [prB_f (by assumption)]); rw [show p.i + 1 = 1 by omega] at e; exact e⟩) hK rfl
 refine iI (fun hc4 => ?_) (fun hc4 => ?_)
 refine iI (fun hc5 => ?_) (fun hc5 => ?_)
 refine mI (by (first | omega | (simp [limP] <;> omega))) ?_
 refine callPR (⟨p.f.s1.l, (0 : Nat), p.f.s1.l.length - 0⟩ : A_clones_psub) rfl (by (try dsimp only [pre_clones_psub]); first | omega | (simp only [List.length_take, List.length_drop]; omega)) fun r1 hi6 => ?_
 dsimp only [po_clones_psub] at hi6
 exact bk_kc2 (q := ⟨p.h3, p.l3, ({ p.f with s1 := ⟨p.f.s1.l, p.f.s1.com, true = true⟩ } : F2), p.b0, p.b1, max p.L (r1.o.length : Int), (2 : Int)⟩) (by dsimp only [mu_kc2]; omega) (by dsimp only [pre_kc2]; first | (exfalso; omega) | exact ⟨tr_shutO (i := 0) g0 rfl _, g1, g2, g3, by omega, by omega, by have e := shut_yes (k := 1) (l := p.f.s1.l) (rs' := [p.f.s0, ⟨p.f.s1.l, p.f.s1.com, true = true⟩]) (p := true = true) (L' := max p.L (r1.o.length : Int)) g6 (by omega) rfl rfl rfl (by first | omega | (simp; omega)); rw [show p.i + 1 = 2 by omega] at e; exact e⟩) hK rfl
 exact bk_kc2 (q := ⟨p.h3, p.l3, p.f, p.b0, p.b1, p.L, (2 : Int)⟩) (by dsimp only [mu_kc2]; omega) (by dsimp only [pre_kc2]; first | (exfalso; omega) | exact ⟨g0, g1, g2, g3, by omega, by omega, by have e := shut_no (k := 1) g6 (by omega) (by simp [prB_f (by assumption)]); rw [show p.i + 1 = 2 by omega] at e; exact e⟩) hK rfl
 refine iI (fun hc7 => ?_) (fun hc7 => ?_)
 exact fin_kc2 hK ⟨p.f, p.L⟩ (by dsimp only [po_kc2] <;> (first | (exfalso; omega) | exact ⟨g0, g1, g2, [prB p.b0, prB p.b1], rfl, g3, by have e : p.i = 2 := (by omega); rw [e] at g6; exact g6⟩))
 refine iI (fun hc8 => ?_) (fun hc8 => ?_)
 exact fin_kc2 hK ⟨p.f, p.L⟩ (by dsimp only [po_kc2] <;> (first | (exfalso; omega) | exact ⟨g0, g1, g2, [prB p.b0, prB p.b1], rfl, g3, by have e : p.i = 2 := (by omega); rw [e] at g6; exact g6⟩))
 refine iI (fun hc9 => ?_) (fun hc9 => ?_)
 exact fin_kc2 hK ⟨p.f, p.L⟩ (by dsimp only [po_kc2] <;> (first | (exfalso; omega) | exact ⟨g0, g1, g2, [prB p.b0, prB p.b1], rfl, g3, by have e : p.i = 2 := (by omega); rw [e] at g6; exact g6⟩))
 refine iI (fun hc10 => ?_) (fun hc10 => ?_)
 exact fin_kc2 hK ⟨p.f, p.L⟩ (by dsimp only [po_kc2] <;> (first | (exfalso; omega) | exact ⟨g0, g1, g2, [prB p.b0, prB p.b1], rfl, g3, by have e : p.i = 2 := (by omega); rw [e] at g6; exact g6⟩))
 refine mI (by omega) ?_
 rfl
theorem vb_kc3 (p : A_kc3) (K : KC) (hpre : pre_kc3 p) (hK : out_kc3 p K = true) : (codeX (cfT nat_made) lp_rollKeeps 600 bd_kc (I_kc3 p).1 (I_kc3 p).2.1 (I_kc3 p).2.2 (kk_kc (mu_kc (.v3 p)) K)) = true := by
 refine Eq.trans (b := (let z0 : Bool := (K 6 (.cons 15 (.sy (.int 0 p.L)) (.cons 9 (.ptr 0 0) (.cons 3 (.sy (.imm p.h3 4 StepR p.l3 encS)) .nil))) (Fd3n p.f) 15); iP (p.i = 0) (iP (p.b0) (mP (p.f.s0.l.length = p.f.s0.l.length ∧ 0 ≤ (0 : Int) ∧ (0 : Int) ≤ (p.f.s0.l.length : Int) ∧ (p.f.s0.l.length : Int) ≤ (p.f.s0.l.length : Int)) (useC (([.sy (.psub 0 18 0 (p.f.s0.l.length - 0))], (.node .leaf (some (.prow 45 18 Int p.f.s0.l encK)) .leaf), 1)) I_clones_psub pre_clones_psub po_clones_psub fun p3 r3 => exB fun q5 : A_kc => mP (((.cons 16 (.sy (.int 0 1)) (.cons 15 (.sy (.int 0 (max p.L (r3.o.length : Int)))) (.cons 11 (.sl 1 0 3 (.ex 3)) (.cons 9 (.ptr 0 0) (.cons 3 (.sy (.imm p.h3 4 StepR p.l3 encS)) .nil))))), (Fk3 ({ p.f with s0 := ⟨p3.l, p.f.s0.com, true = true⟩ } : F3) p.b0 p.b1 p.b2 p.f.fly.length p.f.s0.l.length p.f.s1.l.length p.f.s2.l.length), 16) = I_kc q5 ∧ mu_kc q5 < mu_kc (.v3 p)) (sp_kc q5 K))) (exB fun q6 : A_kc => mP (((.cons 16 (.sy (.int 0 1)) (.cons 15 (.sy (.int 0 p.L)) (.cons 11 (.sl 1 0 3 (.ex 3)) (.cons 9 (.ptr 0 0) (.cons 3 (.sy (.imm p.h3 4 StepR p.l3 encS)) .nil))))), (Fk3n p.f p.b0 p.b1 p.b2), 16) = I_kc q6 ∧ mu_kc q6 < mu_kc (.v3 p)) (sp_kc q6 K))) (iP (p.i = 1) (iP (p.b1) (mP (p.f.s1.l.length = p.f.s1.l.length ∧ 0 ≤ (0 : Int) ∧ (0 : Int) ≤ (p.f.s1.l.length : Int) ∧ (p.f.s1.l.length : Int) ≤ (p.f.s1.l.length : Int)) (useC (([.sy (.psub 0 18 0 (p.f.s1.l.length - 0))], (.node .leaf (some (.prow 45 18 Int p.f.s1.l encK)) .leaf), 1)) I_clones_psub pre_clones_psub po_clones_psub fun p2 r2 => exB fun q3 : A_kc => mP (((.cons 16 (.sy (.int 0 2)) (.cons 15 (.sy (.int 0 (max p.L (r2.o.length : Int)))) (.cons 11 (.sl 1 0 3 (.ex 3)) (.cons 9 (.ptr 0 0) (.cons 3 (.sy (.imm p.h3 4 StepR p.l3 encS)) .nil))))), (Fk3 ({ p.f with s1 := ⟨p2.l, p.f.s1.com, true = true⟩ } : F3) p.b0 p.b1 p.b2 p.f.fly.length p.f.s0.l.length p.f.s1.l.length p.f.s2.l.length), 16) = I_kc q3 ∧ mu_kc q3 < mu_kc (.v3 p)) (sp_kc q3 K))) (exB fun q4 : A_kc => mP (((.cons 16 (.sy (.int 0 2)) (.cons 15 (.sy (.int 0 p.L)) (.cons 11 (.sl 1 0 3 (.ex 3)) (.cons 9 (.ptr 0 0) (.cons 3 (.sy (.imm p.h3 4 StepR p.l3 encS)) .nil))))), (Fk3n p.f p.b0 p.b1 p.b2), 16) = I_kc q4 ∧ mu_kc q4 < mu_kc (.v3 p)) (sp_kc q4 K))) (iP (p.i = 2) (iP (p.b2) (mP (p.f.s2.l.length = p.f.s2.l.length ∧ 0 ≤ (0 : Int) ∧ (0 : Int) ≤ (p.f.s2.l.length : Int) ∧ (p.f.s2.l.length : Int) ≤ (p.f.s2.l.length : Int)) (useC (([.sy (.psub 0 18 0 (p.f.s2.l.length - 0))], (.node .leaf (some (.prow 45 18 Int p.f.s2.l encK)) .leaf), 1)) I_clones_psub pre_clones_psub po_clones_psub fun p1 r1 => exB fun q1 : A_kc => mP (((.cons 16 (.sy (.int 0 3)) (.cons 15 (.sy (.int 0 (max p.L (r1.o.length : Int)))) (.cons 11 (.sl 1 0 3 (.ex 3)) (.cons 9 (.ptr 0 0) (.cons 3 (.sy (.imm p.h3 4 StepR p.l3 encS)) .nil))))), (Fk3 ({ p.f with s2 := ⟨p1.l, p.f.s2.com, true = true⟩ } : F3) p.b0 p.b1 p.b2 p.f.fly.length p.f.s0.l.length p.f.s1.l.length p.f.s2.l.length), 16) = I_kc q1 ∧ mu_kc q1 < mu_kc (.v3 p)) (sp_kc q1 K))) (exB fun q2 : A_kc => mP (((.cons 16 (.sy (.int 0 3)) (.cons 15 (.sy (.int 0 p.L)) (.cons 11 (.sl 1 0 3 (.ex 3)) (.cons 9 (.ptr 0 0) (.cons 3 (.sy (.imm p.h3 4 StepR p.l3 encS)) .nil))))), (Fk3n p.f p.b0 p.b1 p.b2), 16) = I_kc q2 ∧ mu_kc q2 < mu_kc (.v3 p)) (sp_kc q2 K))) (iP (p.i = 3) z0 (iP (p.i = 4) z0 (iP (p.i = 5) z0 (mP (False) (true))))))))) (by kernel_rfl) ?_
 dsimp only [pre_kc3] at hpre
 obtain ⟨g0, g1, g2, g3, g4, g5, g6⟩ := hpre
 obtain ⟨hs, hfew, f0, f1, f2⟩ := fact3 g0
 refine iI (fun hc1 => ?_) (fun hc1 => ?_)
 refine iI (fun hc2 => ?_) (fun hc2 => ?_)
 refine mI (by (first | omega | (simp [limP] <;> omega))) ?_
 refine callPR (⟨p.f.s0.l, (0 : Nat), p.f.s0.l.length - 0⟩ : A_clones_psub) rfl (by (try dsimp only [pre_clones_psub]); first | omega | (simp only [List.length_take, List.length_drop]; omega)) fun r3 hi3 => ?_
 dsimp only [po_clones_psub] at hi3
 exact bk_kc3 (q := ⟨p.h3, p.l3, ({ p.f with s0 := ⟨p.f.s0.l, p.f.s0.com, true = true⟩ } : F3), p.b0, p.b1, p.b2, max p.L (r3.o.length : Int), (1 : Int)⟩) (by dsimp only [mu_kc3]; omega) (by dsimp only [pre_kc3]; first | (exfalso; omega) | exact ⟨tr_shut g0 _, g1, g2, g3, by omega, by omega, by have e := shut_yes (k := 0) (l := p.f.s0.l) (rs' := [⟨p.f.s0.l, p.f.s0.com, true = true⟩, p.f.s1, p.f.s2]) (p := true = true) (L' := max p.L (r3.o.length : Int)) g6 (by omega) rfl rfl rfl (by first | omega | (simp; omega)); rw [show p.i + 1 = 1 by omega] at e; exact e⟩) hK rfl
 exact bk_kc3 (q := ⟨p.h3, p.l3, p.f, p.b0, p.b1, p.b2, p.L, (1 : Int)⟩) (by dsimp only [mu_kc3]; omega) (by dsimp only [pre_kc3]; first | (exfalso; omega) | exact ⟨g0, g1, g2, g3, by omega, by omega, by have e := shut_no (k := 0) g6 (by omega) (by simp [prB_f (by assumption)]); rw [show p.i + 1 = 1 by omega] at e; exact e⟩) hK rfl
 refine iI (fun hc4 => ?_) (fun hc4 => ?_)
 refine iI (fun hc5 => ?_) (fun hc5 => ?_)
 refine mI (by (first | omega | (simp [limP] <;> omega))) ?_
 refine callPR (⟨p.f.s1.l, (0 : Nat), p.f.s1.l.length - 0⟩ : A_clones_psub) rfl (by (try dsimp only [pre_clones_psub]); first | omega | (simp only [List.length_take, List.length_drop]; omega)) fun r2 hi6 => ?_
 dsimp only [po_clones_psub] at hi6
 exact bk_kc3 (q := ⟨p.h3, p.l3, ({ p.f with s1 := ⟨p.f.s1.l, p.f.s1.com, true = true⟩ } : F3), p.b0, p.b1, p.b2, max p.L (r2.o.length : Int), (2 : Int)⟩) (by dsimp only [mu_kc3]; omega) (by dsimp only [pre_kc3]; first | (exfalso; omega) | exact ⟨tr_shutO (i := 0) g0 rfl _, g1, g2, g3, by omega, by omega, by have e := shut_yes (k := 1) (l := p.f.s1.l) (rs' := [p.f.s0, ⟨p.f.s1.l, p.f.s1.com, true = true⟩, p.f.s2]) (p := true = true) (L' := max p.L (r2.o.length : Int)) g6 (by omega) rfl rfl rfl (by first | omega | (simp; omega)); rw [show p.i + 1 = 2 by omega] at e; exact e⟩) hK rfl
 exact bk_kc3 (q := ⟨p.h3, p.l3, p.f, p.b0, p.b1, p.b2, p.L, (2 : Int)⟩) (by dsimp only [mu_kc3]; omega) (by dsimp only [pre_kc3]; first | (exfalso; omega) | exact ⟨g0, g1, g2, g3, by omega, by omega, by have e := shut_no (k := 1) g6 (by omega) (by simp [prB_f (by assumption)]); rw [show p.i + 1 = 2 by omega] at e; exact e⟩) hK rfl
 refine iI (fun hc7 => ?_) (fun hc7 => ?_)
 refine iI (fun hc8 => ?_) (fun hc8 => ?_)
 refine mI (by (first | omega | (simp [limP] <;> omega))) ?_
 refine callPR (⟨p.f.s2.l, (0 : Nat), p.f.s2.l.length - 0⟩ : A_clones_psub) rfl (by (try dsimp only [pre_clones_psub]); first | omega | (simp only [List.length_take, List.length_drop]; omega)) fun r1 hi9 => ?_
 dsimp only [po_clones_psub] at hi9
 exact bk_kc3 (q := ⟨p.h3, p.l3, ({ p.f with s2 := ⟨p.f.s2.l, p.f.s2.com, true = true⟩ } : F3), p.b0, p.b1, p.b2, max p.L (r1.o.length : Int), (3 : Int)⟩) (by dsimp only [mu_kc3]; omega) (by dsimp only [pre_kc3]; first | (exfalso; omega) | exact ⟨tr_shutO (i := 1) g0 rfl _, g1, g2, g3, by omega, by omega, by have e := shut_yes (k := 2) (l := p.f.s2.l) (rs' := [p.f.s0, p.f.s1, ⟨p.f.s2.l, p.f.s2.com, true = true⟩]) (p := true = true) (L' := max p.L (r1.o.length : Int)) g6 (by omega) rfl rfl rfl (by first | omega | (simp; omega)); rw [show p.i + 1 = 3 by omega] at e; exact e⟩) hK rfl
 exact bk_kc3 (q := ⟨p.h3, p.l3, p.f, p.b0, p.b1, p.b2, p.L, (3 : Int)⟩) (by dsimp only [mu_kc3]; omega) (by dsimp only [pre_kc3]; first | (exfalso; omega) | exact ⟨g0, g1, g2, g3, by omega, by omega, by have e := shut_no (k := 2) g6 (by omega) (by simp [prB_f (by assumption)]); rw [show p.i + 1 = 3 by omega] at e; exact e⟩) hK rfl
 refine iI (fun hc10 => ?_) (fun hc10 => ?_)
 exact fin_kc3 hK ⟨p.f, p.L⟩ (by dsimp only [po_kc3] <;> (first | (exfalso; omega) | exact ⟨g0, g1, g2, [prB p.b0, prB p.b1, prB p.b2], rfl, g3, by have e : p.i = 3 := (by omega); rw [e] at g6; exact g6⟩))
 refine iI (fun hc11 => ?_) (fun hc11 => ?_)
 exact fin_kc3 hK ⟨p.f, p.L⟩ (by dsimp only [po_kc3] <;> (first | (exfalso; omega) | exact ⟨g0, g1, g2, [prB p.b0, prB p.b1, prB p.b2], rfl, g3, by have e : p.i = 3 := (by omega); rw [e] at g6; exact g6⟩))
 refine iI (fun hc12 => ?_) (fun hc12 => ?_)
 exact fin_kc3 hK ⟨p.f, p.L⟩ (by dsimp only [po_kc3] <;> (first | (exfalso; omega) | exact ⟨g0, g1, g2, [prB p.b0, prB p.b1, prB p.b2], rfl, g3, by have e : p.i = 3 := (by omega); rw [e] at g6; exact g6⟩))
 refine mI (by omega) ?_
 rfl
theorem vb_kc4 (p : A_kc4) (K : KC) (hpre : pre_kc4 p) (hK : out_kc4 p K = true) : (codeX (cfT nat_made) lp_rollKeeps 600 bd_kc (I_kc4 p).1 (I_kc4 p).2.1 (I_kc4 p).2.2 (kk_kc (mu_kc (.v4 p)) K)) = true := by
 refine Eq.trans (b := (let z0 : Bool := (K 6 (.cons 15 (.sy (.int 0 p.L)) (.cons 9 (.ptr 0 0) (.cons 3 (.sy (.imm p.h3 4 StepR p.l3 encS)) .nil))) (Fd4n p.f) 19); iP (p.i = 0) (iP (p.b0) (mP (p.f.s0.l.length = p.f.s0.l.length ∧ 0 ≤ (0 : Int) ∧ (0 : Int) ≤ (p.f.s0.l.length : Int) ∧ (p.f.s0.l.length : Int) ≤ (p.f.s0.l.length : Int)) (useC (([.sy (.psub 0 18 0 (p.f.s0.l.length - 0))], (.node .leaf (some (.prow 45 18 Int p.f.s0.l encK)) .leaf), 1)) I_clones_psub pre_clones_psub po_clones_psub fun p4 r4 => exB fun q7 : A_kc => mP (((.cons 16 (.sy (.int 0 1)) (.cons 15 (.sy (.int 0 (max p.L (r4.o.length : Int)))) (.cons 11 (.sl 1 0 4 (.ex 4)) (.cons 9 (.ptr 0 0) (.cons 3 (.sy (.imm p.h3 4 StepR p.l3 encS)) .nil))))), (Fk4 ({ p.f with s0 := ⟨p4.l, p.f.s0.com, true = true⟩ } : F4) p.b0 p.b1 p.b2 p.b3 p.f.fly.length p.f.s0.l.length p.f.s1.l.length p.f.s2.l.length p.f.s3.l.length), 20) = I_kc q7 ∧ mu_kc q7 < mu_kc (.v4 p)) (sp_kc q7 K))) (exB fun q8 : A_kc => mP (((.cons 16 (.sy (.int 0 1)) (.cons 15 (.sy (.int 0 p.L)) (.cons 11 (.sl 1 0 4 (.ex 4)) (.cons 9 (.ptr 0 0) (.cons 3 (.sy (.imm p.h3 4 StepR p.l3 encS)) .nil))))), (Fk4n p.f p.b0 p.b1 p.b2 p.b3), 20) = I_kc q8 ∧ mu_kc q8 < mu_kc (.v4 p)) (sp_kc q8 K))) (iP (p.i = 1) (iP (p.b1) (mP (p.f.s1.l.length = p.f.s1.l.length ∧ 0 ≤ (0 : Int) ∧ (0 : Int) ≤ (p.f.s1.l.length : Int) ∧ (p.f.s1.l.length : Int) ≤ (p.f.s1.l.length : Int)) (useC (([.sy (.psub 0 18 0 (p.f.s1.l.length - 0))], (.node .leaf (some (.prow 45 18 Int p.f.s1.l encK)) .leaf), 1)) I_clones_psub pre_clones_psub po_clones_psub fun p3 r3 => exB fun q5 : A_kc => mP (((.cons 16 (.sy (.int 0 2)) (.cons 15 (.sy (.int 0 (max p.L (r3.o.length : Int)))) (.cons 11 (.sl 1 0 4 (.ex 4)) (.cons 9 (.ptr 0 0) (.cons 3 (.sy (.imm p.h3 4 StepR p.l3 encS)) .nil))))), (Fk4 ({ p.f with s1 := ⟨p3.l, p.f.s1.com, true = true⟩ } : F4) p.b0 p.b1 p.b2 p.b3 p.f.fly.length p.f.s0.l.length p.f.s1.l.length p.f.s2.l.length p.f.s3.l.length), 20) = I_kc q5 ∧ mu_kc q5 < mu_kc (.v4 p)) (sp_kc q5 K))) (exB fun q6 : A_kc => mP (((.cons 16 (.sy (.int 0 2)) (.cons 15 (.sy (.int 0 p.L)) (.cons 11 (.sl 1 0 4 (.ex 4)) (.cons 9 (.ptr 0 0) (.cons 3 (.sy (.imm p.h3 4 StepR p.l3 encS)) .nil))))), (Fk4n p.f p.b0 p.b1 p.b2 p.b3), 20) = I_kc q6 ∧ mu_kc q6 < mu_kc (.v4 p)) (sp_kc q6 K))) (iP (p.i = 2) (iP (p.b2) (mP (p.f.s2.l.length = p.f.s2.l.length ∧ 0 ≤ (0 : Int) ∧ (0 : Int) ≤ (p.f.s2.l.length : Int) ∧ (p.f.s2.l.length : Int) ≤ (p.f.s2.l.length : Int)) (useC (([.sy (.psub 0 18 0 (p.f.s2.l.length - 0))], (.node .leaf (some (.prow 45 18 Int p.f.s2.l encK)) .leaf), 1)) I_clones_psub pre_clones_psub po_clones_psub fun p2 r2 => exB fun q3 : A_kc => mP (((.cons 16 (.sy (.int 0 3)) (.cons 15 (.sy (.int 0 (max p.L (r2.o.length : Int)))) (.cons 11 (.sl 1 0 4 (.ex 4)) (.cons 9 (.ptr 0 0) (.cons 3 (.sy (.imm p.h3 4 StepR p.l3 encS)) .nil))))), (Fk4 ({ p.f with s2 := ⟨p2.l, p.f.s2.com, true = true⟩ } : F4) p.b0 p.b1 p.b2 p.b3 p.f.fly.length p.f.s0.l.length p.f.s1.l.length p.f.s2.l.length p.f.s3.l.length), 20) = I_kc q3 ∧ mu_kc q3 < mu_kc (.v4 p)) (sp_kc q3 K))) (exB fun q4 : A_kc => mP (((.cons 16 (.sy (.int 0 3)) (.cons 15 (.sy (.int 0 p.L)) (.cons 11 (.sl 1 0 4 (.ex 4)) (.cons 9 (.ptr 0 0) (.cons 3 (.sy (.imm p.h3 4 StepR p.l3 encS)) .nil))))), (Fk4n p.f p.b0 p.b1 p.b2 p.b3), 20) = I_kc q4 ∧ mu_kc q4 < mu_kc (.v4 p)) (sp_kc q4 K))) (iP (p.i = 3) (iP (p.b3) (mP (p.f.s3.l.length = p.f.s3.l.length ∧ 0 ≤ (0 : Int) ∧ (0 : Int) ≤ (p.f.s3.l.length : Int) ∧ (p.f.s3.l.length : Int) ≤ (p.f.s3.l.length : Int)) (useC (([.sy (.psub 0 18 0 (p.f.s3.l.length - 0))], (.node .leaf (some (.prow 45 18 Int p.f.s3.l encK)) .leaf), 1)) I_clones_psub pre_clones_psub po_clones_psub fun p1 r1 => exB fun q1 : A_kc => mP (((.cons 16 (.sy (.int 0 4)) (.cons 15 (.sy (.int 0 (max p.L (r1.o.length : Int)))) (.cons 11 (.sl 1 0 4 (.ex 4)) (.cons 9 (.ptr 0 0) (.cons 3 (.sy (.imm p.h3 4 StepR p.l3 encS)) .nil))))), (Fk4 ({ p.f with s3 := ⟨p1.l, p.f.s3.com, true = true⟩ } : F4) p.b0 p.b1 p.b2 p.b3 p.f.fly.length p.f.s0.l.length p.f.s1.l.length p.f.s2.l.length p.f.s3.l.length), 20) = I_kc q1 ∧ mu_kc q1 < mu_kc (.v4 p)) (sp_kc q1 K))) (exB fun q2 : A_kc => mP (((.cons 16 (.sy (.int 0 4)) (.cons 15 (.sy (.int 0 p.L)) (.cons 11 (.sl 1 0 4 (.ex 4)) (.cons 9 (.ptr 0 0) (.cons 3 (.sy (.imm p.h3 4 StepR p.l3 encS)) .nil))))), (Fk4n p.f p.b0 p.b1 p.b2 p.b3), 20) = I_kc q2 ∧ mu_kc q2 < mu_kc (.v4 p)) (sp_kc q2 K))) (iP (p.i = 4) z0 (iP (p.i = 5) z0 (mP (False) (true))))))))) (by kernel_rfl) ?_
 dsimp only [pre_kc4] at hpre
 obtain ⟨g0, g1, g2, g3, g4, g5, g6⟩ := hpre
 obtain ⟨hs, hfew, f0, f1, f2, f3⟩ := fact4 g0
 refine iI (fun hc1 => ?_) (fun hc1 => ?_)
 refine iI (fun hc2 => ?_) (fun hc2 => ?_)
 refine mI (by (first | omega | (simp [limP] <;> omega))) ?_
 refine callPR (⟨p.f.s0.l, (0 : Nat), p.f.s0.l.length - 0⟩ : A_clones_psub) rfl (by (try dsimp only [pre_clones_psub]); first | omega | (simp only [List.length_take, List.length_drop]; omega)) fun r4 hi3 => ?_
 dsimp only [po_clones_psub] at hi3
 exact bk_kc4 (q := ⟨p.h3, p.l3, ({ p.f with s0 := ⟨p.f.s0.l, p.f.s0.com, true = true⟩ } : F4), p.b0, p.b1, p.b2, p.b3, max p.L (r4.o.length : Int), (1 : Int)⟩) (by dsimp only [mu_kc4]; omega) (by dsimp only [pre_kc4]; first | (exfalso; omega) | exact ⟨tr_shut g0 _, g1, g2, g3, by omega, by omega, by have e := shut_yes (k := 0) (l := p.f.s0.l) (rs' := [⟨p.f.s0.l, p.f.s0.com, true = true⟩, p.f.s1, p.f.s2, p.f.s3]) (p := true = true) (L' := max p.L (r4.o.length : Int)) g6 (by omega) rfl rfl rfl (by first | omega | (simp; omega)); rw [show p.i + 1 = 1 by omega] at e; exact e⟩) hK rfl
 exact bk_kc4 (q := ⟨p.h3, p.l3, p.f, p.b0, p.b1, p.b2, p.b3, p.L, (1 : Int)⟩) (by dsimp only [mu_kc4]; omega) (by dsimp only [pre_kc4]; first | (exfalso; omega) | exact ⟨g0, g1, g2, g3, by omega, by omega, by have e := shut_no (k := 0) g6 (by omega) (by simp [prB_f (by assumption)]); rw [show p.i + 1 = 1 by omega] at e; exact e⟩) hK rfl
 refine iI (fun hc4 => ?_) (fun hc4 => ?_)
 refine iI (fun hc5 => ?_) (fun hc5 => ?_)
 refine mI (by (first | omega | (simp [limP] <;> omega))) ?_
 refine callPR (⟨p.f.s1.l, (0 : Nat), p.f.s1.l.length - 0⟩ : A_clones_psub) rfl (by (try dsimp only [pre_clones_psub]); first | omega | (simp only [List.length_take, List.length_drop]; omega)) fun r3 hi6 => ?_
 dsimp only [po_clones_psub] at hi6
 exact bk_kc4 (q := ⟨p.h3, p.l3, ({ p.f with s1 := ⟨p.f.s1.l, p.f.s1.com, true = true⟩ } : F4), p.b0, p.b1, p.b2, p.b3, max p.L (r3.o.length : Int), (2 : Int)⟩) (by dsimp only [mu_kc4]; omega) (by dsimp only [pre_kc4]; first | (exfalso; omega) | exact ⟨tr_shutO (i := 0) g0 rfl _, g1, g2, g3, by omega, by omega, by have e := shut_yes (k := 1) (l := p.f.s1.l) (rs' := [p.f.s0, ⟨p.f.s1.l, p.f.s1.com, true = true⟩, p.f.s2, p.f.s3]) (p := true = true) (L' := max p.L (r3.o.length : Int)) g6 (by omega) rfl rfl rfl (by first | omega | (simp; omega)); rw [show p.i + 1 = 2 by omega] at e; exact e⟩) hK rfl
 exact bk_kc4 (q := ⟨p.h3, p.l3, p.f, p.b0, p.b1, p.b2, p.b3, p.L, (2 : Int)⟩) (by dsimp only [mu_kc4]; omega) (by dsimp only [pre_kc4]; first | (exfalso; omega) | exact ⟨g0, g1, g2, g3, by omega, by omega, by have e := shut_no (k := 1) g6 (by omega) (by simp [prB_f (by assumption)]); rw [show p.i + 1 = 2 by omega] at e; exact e⟩) hK rfl
 refine iI (fun hc7 => ?_) (fun hc7 => ?_)
 refine iI (fun hc8 => ?_) (fun hc8 => ?_)
 refine mI (by (first | omega | (simp [limP] <;> omega))) ?_
 refine callPR (⟨p.f.s2.l, (0 : Nat), p.f.s2.l.length - 0⟩ : A_clones_psub) rfl (by (try dsimp only [pre_clones_psub]); first | omega | (simp only [List.length_take, List.length_drop]; omega)) fun r2 hi9 => ?_
 dsimp only [po_clones_psub] at hi9
 exact bk_kc4 (q := ⟨p.h3, p.l3, ({ p.f with s2 := ⟨p.f.s2.l, p.f.s2.com, true = true⟩ } : F4), p.b0, p.b1, p.b2, p.b3, max p.L (r2.o.length : Int), (3 : Int)⟩) (by dsimp only [mu_kc4]; omega) (by dsimp only [pre_kc4]; first | (exfalso; omega) | exact ⟨tr_shutO (i := 1) g0 rfl _, g1, g2, g3, by omega, by omega, by have e := shut_yes (k := 2) (l := p.f.s2.l) (rs' := [p.f.s0, p.f.s1, ⟨p.f.s2.l, p.f.s2.com, true = true⟩, p.f.s3]) (p := true = true) (L' := max p.L (r2.o.length : Int)) g6 (by omega) rfl rfl rfl (by first | omega | (simp; omega)); rw [show p.i + 1 = 3 by omega] at e; exact e⟩) hK rfl
 exact bk_kc4 (q := ⟨p.h3, p.l3, p.f, p.b0, p.b1, p.b2, p.b3, p.L, (3 : Int)⟩) (by dsimp only [mu_kc4]; omega) (by dsimp only [pre_kc4]; first | (exfalso; omega) | exact ⟨g0, g1, g2, g3, by omega, by omega, by have e := shut_no (k := 2) g6 (by omega) (by simp [prB_f (by assumption)]); rw [show p.i + 1 = 3 by omega] at e; exact e⟩) hK rfl
 refine iI (fun hc10 => ?_) (fun hc10 => ?_)
 refine iI (fun hc11 => ?_) (fun hc11 => ?_)
 refine mI (by (first | omega | (simp [limP] <;> omega))) ?_
 refine callPR (⟨p.f.s3.l, (0 : Nat), p.f.s3.l.length - 0⟩ : A_clones_psub) rfl (by (try dsimp only [pre_clones_psub]); first | omega | (simp only [List.length_take, List.length_drop]; omega)) fun r1 hi12 => ?_
 dsimp only [po_clones_psub] at hi12
 exact bk_kc4 (q := ⟨p.h3, p.l3, ({ p.f with s3 := ⟨p.f.s3.l, p.f.s3.com, true = true⟩ } : F4), p.b0, p.b1, p.b2, p.b3, max p.L (r1.o.length : Int), (4 : Int)⟩) (by dsimp only [mu_kc4]; omega) (by dsimp only [pre_kc4]; first | (exfalso; omega) | exact ⟨tr_shutO (i := 2) g0 rfl _, g1, g2, g3, by omega, by omega, by have e := shut_yes (k := 3) (l := p.f.s3.l) (rs' := [p.f.s0, p.f.s1, p.f.s2, ⟨p.f.s3.l, p.f.s3.com, true = true⟩]) (p := true = true) (L' := max p.L (r1.o.length : Int)) g6 (by omega) rfl rfl rfl (by first | omega | (simp; omega)); rw [show p.i + 1 = 4 by omega] at e; exact e⟩) hK rfl
 exact bk_kc4 (q := ⟨p.h3, p.l3, p.f, p.b0, p.b1, p.b2, p.b3, p.L, (4 : Int)⟩) (by dsimp only [mu_kc4]; omega) (by dsimp only [pre_kc4]; first | (exfalso; omega) | exact ⟨g0, g1, g2, g3, by omega, by omega, by have e := shut_no (k := 3) g6 (by omega) (by simp [prB_f (by assumption)]); rw [show p.i + 1 = 4 by omega] at e; exact e⟩) hK rfl
 refine iI (fun hc13 => ?_) (fun hc13 => ?_)
 exact fin_kc4 hK ⟨p.f, p.L⟩ (by dsimp only [po_kc4] <;> (first | (exfalso; omega) | exact ⟨g0, g1, g2, [prB p.b0, prB p.b1, prB p.b2, prB p.b3], rfl, g3, by have e : p.i = 4 := (by omega); rw [e] at g6; exact g6⟩))
 refine iI (fun hc14 => ?_) (fun hc14 => ?_)
 exact fin_kc4 hK ⟨p.f, p.L⟩ (by dsimp only [po_kc4] <;> (first | (exfalso; omega) | exact ⟨g0, g1, g2, [prB p.b0, prB p.b1, prB p.b2, prB p.b3], rfl, g3, by have e : p.i = 4 := (by omega); rw [e] at g6; exact g6⟩))
 refine mI (by omega) ?_
 rfl
theorem vb_kc5 (p : A_kc5) (K : KC) (hpre : pre_kc5 p) (hK : out_kc5 p K = true) : (codeX (cfT nat_made) lp_rollKeeps 600 bd_kc (I_kc5 p).1 (I_kc5 p).2.1 (I_kc5 p).2.2 (kk_kc (mu_kc (.v5 p)) K)) = true := by
 refine Eq.trans (b := (iP (p.i = 0) (iP (p.b0) (mP (p.f.s0.l.length = p.f.s0.l.length ∧ 0 ≤ (0 : Int) ∧ (0 : Int) ≤ (p.f.s0.l.length : Int) ∧ (p.f.s0.l.length : Int) ≤ (p.f.s0.l.length : Int)) (useC (([.sy (.psub 0 18 0 (p.f.s0.l.length - 0))], (.node .leaf (some (.prow 45 18 Int p.f.s0.l encK)) .leaf), 1)) I_clones_psub pre_clones_psub po_clones_psub fun p5 r5 => exB fun q9 : A_kc => mP (((.cons 16 (.sy (.int 0 1)) (.cons 15 (.sy (.int 0 (max p.L (r5.o.length : Int)))) (.cons 11 (.sl 1 0 5 (.ex 5)) (.cons 9 (.ptr 0 0) (.cons 3 (.sy (.imm p.h3 4 StepR p.l3 encS)) .nil))))), (Fk5 ({ p.f with s0 := ⟨p5.l, p.f.s0.com, true = true⟩ } : F5) p.b0 p.b1 p.b2 p.b3 p.b4 p.f.fly.length p.f.s0.l.length p.f.s1.l.length p.f.s2.l.length p.f.s3.l.length p.f.s4.l.length), 24) = I_kc q9 ∧ mu_kc q9 < mu_kc (.v5 p)) (sp_kc q9 K))) (exB fun q10 : A_kc => mP (((.cons 16 (.sy (.int 0 1)) (.cons 15 (.sy (.int 0 p.L)) (.cons 11 (.sl 1 0 5 (.ex 5)) (.cons 9 (.ptr 0 0) (.cons 3 (.sy (.imm p.h3 4 StepR p.l3 encS)) .nil))))), (Fk5n p.f p.b0 p.b1 p.b2 p.b3 p.b4), 24) = I_kc q10 ∧ mu_kc q10 < mu_kc (.v5 p)) (sp_kc q10 K))) (iP (p.i = 1) (iP (p.b1) (mP (p.f.s1.l.length = p.f.s1.l.length ∧ 0 ≤ (0 : Int) ∧ (0 : Int) ≤ (p.f.s1.l.length : Int) ∧ (p.f.s1.l.length : Int) ≤ (p.f.s1.l.length : Int)) (useC (([.sy (.psub 0 18 0 (p.f.s1.l.length - 0))], (.node .leaf (some (.prow 45 18 Int p.f.s1.l encK)) .leaf), 1)) I_clones_psub pre_clones_psub po_clones_psub fun p4 r4 => exB fun q7 : A_kc => mP (((.cons 16 (.sy (.int 0 2)) (.cons 15 (.sy (.int 0 (max p.L (r4.o.length : Int)))) (.cons 11 (.sl 1 0 5 (.ex 5)) (.cons 9 (.ptr 0 0) (.cons 3 (.sy (.imm p.h3 4 StepR p.l3 encS)) .nil))))), (Fk5 ({ p.f with s1 := ⟨p4.l, p.f.s1.com, true = true⟩ } : F5) p.b0 p.b1 p.b2 p.b3 p.b4 p.f.fly.length p.f.s0.l.length p.f.s1.l.length p.f.s2.l.length p.f.s3.l.length p.f.s4.l.length), 24) = I_kc q7 ∧ mu_kc q7 < mu_kc (.v5 p)) (sp_kc q7 K))) (exB fun q8 : A_kc => mP (((.cons 16 (.sy (.int 0 2)) (.cons 15 (.sy (.int 0 p.L)) (.cons 11 (.sl 1 0 5 (.ex 5)) (.cons 9 (.ptr 0 0) (.cons 3 (.sy (.imm p.h3 4 StepR p.l3 encS)) .nil))))), (Fk5n p.f p.b0 p.b1 p.b2 p.b3 p.b4), 24) = I_kc q8 ∧ mu_kc q8 < mu_kc (.v5 p)) (sp_kc q8 K))) (iP (p.i = 2) (iP (p.b2) (mP (p.f.s2.l.length = p.f.s2.l.length ∧ 0 ≤ (0 : Int) ∧ (0 : Int) ≤ (p.f.s2.l.length : Int) ∧ (p.f.s2.l.length : Int) ≤ (p.f.s2.l.length : Int)) (useC (([.sy (.psub 0 18 0 (p.f.s2.l.length - 0))], (.node .leaf (some (.prow 45 18 Int p.f.s2.l encK)) .leaf), 1)) I_clones_psub pre_clones_psub po_clones_psub fun p3 r3 => exB fun q5 : A_kc => mP (((.cons 16 (.sy (.int 0 3)) (.cons 15 (.sy (.int 0 (max p.L (r3.o.length : Int)))) (.cons 11 (.sl 1 0 5 (.ex 5)) (.cons 9 (.ptr 0 0) (.cons 3 (.sy (.imm p.h3 4 StepR p.l3 encS)) .nil))))), (Fk5 ({ p.f with s2 := ⟨p3.l, p.f.s2.com, true = true⟩ } : F5) p.b0 p.b1 p.b2 p.b3 p.b4 p.f.fly.length p.f.s0.l.length p.f.s1.l.length p.f.s2.l.length p.f.s3.l.length p.f.s4.l.length), 24) = I_kc q5 ∧ mu_kc q5 < mu_kc (.v5 p)) (sp_kc q5 K))) (exB fun q6 : A_kc => mP (((.cons 16 (.sy (.int 0 3)) (.cons 15 (.sy (.int 0 p.L)) (.cons 11 (.sl 1 0 5 (.ex 5)) (.cons 9 (.ptr 0 0) (.cons 3 (.sy (.imm p.h3 4 StepR p.l3 encS)) .nil))))), (Fk5n p.f p.b0 p.b1 p.b2 p.b3 p.b4), 24) = I_kc q6 ∧ mu_kc q6 < mu_kc (.v5 p)) (sp_kc q6 K))) (iP (p.i = 3) (iP (p.b3) (mP (p.f.s3.l.length = p.f.s3.l.length ∧ 0 ≤ (0 : Int) ∧ (0 : Int) ≤ (p.f.s3.l.length : Int) ∧ (p.f.s3.l.length : Int) ≤ (p.f.s3.l.length : Int)) (useC (([.sy (.psub 0 18 0 (p.f.s3.l.length - 0))], (.node .leaf (some (.prow 45 18 Int p.f.s3.l encK)) .leaf), 1)) I_clones_psub pre_clones_psub po_clones_psub fun p2 r2 => exB fun q3 : A_kc => mP (((.cons 16 (.sy (.int 0 4)) (.cons 15 (.sy (.int 0 (max p.L (r2.o.length : Int)))) (.cons 11 (.sl 1 0 5 (.ex 5)) (.cons 9 (.ptr 0 0) (.cons 3 (.sy (.imm p.h3 4 StepR p.l3 encS)) .nil))))), (Fk5 ({ p.f with s3 := ⟨p2.l, p.f.s3.com, true = true⟩ } : F5) p.b0 p.b1 p.b2 p.b3 p.b4 p.f.fly.length p.f.s0.l.length p.f.s1.l.length p.f.s2.l.length p.f.s3.l.length p.f.s4.l.length), 24) = I_kc q3 ∧ mu_kc q3 < mu_kc (.v5 p)) (sp_kc q3 K))) (exB fun q4 : A_kc => mP (((.cons 16 (.sy (.int 0 4)) (.cons 15 (.sy (.int 0 p.L)) (.cons 11 (.sl 1 0 5 (.ex 5)) (.cons 9 (.ptr 0 0) (.cons 3 (.sy (.imm p.h3 4 StepR p.l3 encS)) .nil))))), (Fk5n p.f p.b0 p.b1 p.b2 p.b3 p.b4), 24) = I_kc q4 ∧ mu_kc q4 < mu_kc (.v5 p)) (sp_kc q4 K))) (iP (p.i = 4) (iP (p.b4) (mP (p.f.s4.l.length = p.f.s4.l.length ∧ 0 ≤ (0 : Int) ∧ (0 : Int) ≤ (p.f.s4.l.length : Int) ∧ (p.f.s4.l.length : Int) ≤ (p.f.s4.l.length : Int)) (useC (([.sy (.psub 0 18 0 (p.f.s4.l.length - 0))], (.node .leaf (some (.prow 45 18 Int p.f.s4.l encK)) .leaf), 1)) I_clones_psub pre_clones_psub po_clones_psub fun p1 r1 => exB fun q1 : A_kc => mP (((.cons 16 (.sy (.int 0 5)) (.cons 15 (.sy (.int 0 (max p.L (r1.o.length : Int)))) (.cons 11 (.sl 1 0 5 (.ex 5)) (.cons 9 (.ptr 0 0) (.cons 3 (.sy (.imm p.h3 4 StepR p.l3 encS)) .nil))))), (Fk5 ({ p.f with s4 := ⟨p1.l, p.f.s4.com, true = true⟩ } : F5) p.b0 p.b1 p.b2 p.b3 p.b4 p.f.fly.length p.f.s0.l.length p.f.s1.l.length p.f.s2.l.length p.f.s3.l.length p.f.s4.l.length), 24) = I_kc q1 ∧ mu_kc q1 < mu_kc (.v5 p)) (sp_kc q1 K))) (exB fun q2 : A_kc => mP (((.cons 16 (.sy (.int 0 5)) (.cons 15 (.sy (.int 0 p.L)) (.cons 11 (.sl 1 0 5 (.ex 5)) (.cons 9 (.ptr 0 0) (.cons 3 (.sy (.imm p.h3 4 StepR p.l3 encS)) .nil))))), (Fk5n p.f p.b0 p.b1 p.b2 p.b3 p.b4), 24) = I_kc q2 ∧ mu_kc q2 < mu_kc (.v5 p)) (sp_kc q2 K))) (iP (p.i = 5) (K 6 (.cons 15 (.sy (.int 0 p.L)) (.cons 9 (.ptr 0 0) (.cons 3 (.sy (.imm p.h3 4 StepR p.l3 encS)) .nil))) (Fd5n p.f) 23) (mP (False) (true))))))))) (by kernel_rfl) ?_
 dsimp only [pre_kc5] at hpre
 obtain ⟨g0, g1, g2, g3, g4, g5, g6⟩ := hpre
 obtain ⟨hs, hfew, f0, f1, f2, f3, f4⟩ := fact5 g0
 refine iI (fun hc1 => ?_) (fun hc1 => ?_)
 refine iI (fun hc2 => ?_) (fun hc2 => ?_)
 refine mI (by (first | omega | (simp [limP] <;> omega))) ?_
 refine callPR (⟨p.f.s0.l, (0 : Nat), p.f.s0.l.length - 0⟩ : A_clones_psub) rfl (by (try dsimp only [pre_clones_psub]); first | omega | (simp only [List.length_take, List.length_drop]; omega)) fun r5 hi3 => ?_
 dsimp only [po_clones_psub] at hi3
 exact bk_kc5 (q := ⟨p.h3, p.l3, ({ p.f with s0 := ⟨p.f.s0.l, p.f.s0.com, true = true⟩ } : F5), p.b0, p.b1, p.b2, p.b3, p.b4, max p.L (r5.o.length : Int), (1 : Int)⟩) (by dsimp only [mu_kc5]; omega) (by dsimp only [pre_kc5]; first | (exfalso; omega) | exact ⟨tr_shut g0 _, g1, g2, g3, by omega, by omega, by have e := shut_yes (k := 0) (l := p.f.s0.l) (rs' := [⟨p.f.s0.l, p.f.s0.com, true = true⟩, p.f.s1, p.f.s2, p.f.s3, p.f.s4]) (p := true = true) (L' := max p.L (r5.o.length : Int)) g6 (by omega) rfl rfl rfl (by first | omega | (simp; omega)); rw [show p.i + 1 = 1 by omega] at e; exact e⟩) hK rfl
 exact bk_kc5 (q := ⟨p.h3, p.l3, p.f, p.b0, p.b1, p.b2, p.b3, p.b4, p.L, (1 : Int)⟩) (by dsimp only [mu_kc5]; omega) (by dsimp only [pre_kc5]; first | (exfalso; omega) | exact ⟨g0, g1, g2, g3, by omega, by omega, by have e := shut_no (k := 0) g6 (by omega) (by simp [prB_f (by assumption)]); rw [show p.i + 1 = 1 by omega] at e; exact e⟩) hK rfl
 refine iI (fun hc4 => ?_) (fun hc4 => ?_)
 refine iI (fun hc5 => ?_) (fun hc5 => ?_)
 refine mI (by (first | omega | (simp [limP] <;> omega))) ?_
 refine callPR (⟨p.f.s1.l, (0 : Nat), p.f.s1.l.length - 0⟩ : A_clones_psub) rfl (by (try dsimp only [pre_clones_psub]); first | omega | (simp only [List.length_take, List.length_drop]; omega)) fun r4 hi6 => ?_
 dsimp only [po_clones_psub] at hi6
 exact bk_kc5 (q := ⟨p.h3, p.l3, ({ p.f with s1 := ⟨p.f.s1.l, p.f.s1.com, true = true⟩ } : F5), p.b0, p.b1, p.b2, p.b3, p.b4, max p.L (r4.o.length : Int), (2 : Int)⟩) (by dsimp only [mu_kc5]; omega) (by dsimp only [pre_kc5]; first | (exfalso; omega) | exact ⟨tr_shutO (i := 0) g0 rfl _, g1, g2, g3, by omega, by omega, by have e := shut_yes (k := 1) (l := p.f.s1.l) (rs' := [p.f.s0, ⟨p.f.s1.l, p.f.s1.com, true = true⟩, p.f.s2, p.f.s3, p.f.s4]) (p := true = true) (L' := max p.L (r4.o.length : Int)) g6 (by omega) rfl rfl rfl (by first | omega | (simp; omega)); rw [show p.i + 1 = 2 by omega] at e; exact e⟩) hK rfl
 exact bk_kc5 (q := ⟨p.h3, p.l3, p.f, p.b0, p.b1, p.b2, p.b3, p.b4, p.L, (2 : Int)⟩) (by dsimp only [mu_kc5]; omega) (by dsimp only [pre_kc5]; first | (exfalso; omega) | exact ⟨g0, g1, g2, g3, by omega, by omega, by have e := shut_no (k := 1) g6 (by omega) (by simp [prB_f (by assumption)]); rw [show p.i + 1 = 2 by omega] at e; exact e⟩) hK rfl
 refine iI (fun hc7 => ?_) (fun hc7 => ?_)
 refine iI (fun hc8 => ?_) (fun hc8 => ?_)
 refine mI (by (first | omega | (simp [limP] <;> omega))) ?_
 refine callPR (⟨p.f.s2.l, (0 : Nat), p.f.s2.l.length - 0⟩ : A_clones_psub) rfl (by (try dsimp only [pre_clones_psub]); first | omega | (simp only [List.length_take, List.length_drop]; omega)) fun r3 hi9 => ?_
 dsimp only [po_clones_psub] at hi9
 exact bk_kc5 (q := ⟨p.h3, p.l3, ({ p.f with s2 := ⟨p.f.s2.l, p.f.s2.com, true = true⟩ } : F5), p.b0, p.b1, p.b2, p.b3, p.b4, max p.L (r3.o.length : Int), (3 : Int)⟩) (by dsimp only [mu_kc5]; omega) (by dsimp only [pre_kc5]; first | (exfalso; omega) | exact ⟨tr_shutO (i := 1) g0 rfl _, g1, g2, g3, by omega, by omega, by have e := shut_yes (k := 2) (l := p.f.s2.l) (rs' := [p.f.s0, p.f.s1, ⟨p.f.s2.l, p.f.s2.com, true = true⟩, p.f.s3, p.f.s4]) (p := true = true) (L' := max p.L (r3.o.length : Int)) g6 (by omega) rfl rfl rfl (by first | omega | (simp; omega)); rw [show p.i + 1 = 3 by omega] at e; exact e⟩) hK rfl
 exact bk_kc5 (q := ⟨p.h3, p.l3, p.f, p.b0, p.b1, p.b2, p.b3, p.b4, p.L, (3 : Int)⟩) (by dsimp only [mu_kc5]; omega) (by dsimp only [pre_kc5]; first | (exfalso; omega) | exact ⟨g0, g1, g2, g3, by omega, by omega, by have e := shut_no (k := 2) g6 (by omega) (by simp [prB_f (by assumption)]); rw [show p.i + 1 = 3 by omega] at e; exact e⟩) hK rfl
 refine iI (fun hc10 => ?_) (fun hc10 => ?_)
 refine iI (fun hc11 => ?_) (fun hc11 => ?_)
 refine mI (by (first | omega | (simp [limP] <;> omega))) ?_
 refine callPR (⟨p.f.s3.l, (0 : Nat), p.f.s3.l.length - 0⟩ : A_clones_psub) rfl (by (try dsimp only [pre_clones_psub]); first | omega | (simp only [List.length_take, List.length_drop]; omega)) fun r2 hi12 => ?_
 dsimp only [po_clones_psub] at hi12
 exact bk_kc5 (q := ⟨p.h3, p.l3, ({ p.f with s3 := ⟨p.f.s3.l, p.f.s3.com, true = true⟩ } : F5), p.b0, p.b1, p.b2, p.b3, p.b4, max p.L (r2.o.length : Int), (4 : Int)⟩) (by dsimp only [mu_kc5]; omega) (by dsimp only [pre_kc5]; first | (exfalso; omega) | exact ⟨tr_shutO (i := 2) g0 rfl _, g1, g2, g3, by omega, by omega, by have e := shut_yes (k := 3) (l := p.f.s3.l) (rs' := [p.f.s0, p.f.s1, p.f.s2, ⟨p.f.s3.l, p.f.s3.com, true = true⟩, p.f.s4]) (p := true = true) (L' := max p.L (r2.o.length : Int)) g6 (by omega) rfl rfl rfl (by first | omega | (simp; omega)); rw [show p.i + 1 = 4 by omega] at e; exact e⟩) hK rfl
 exact bk_kc5 (q := ⟨p.h3, p.l3, p.f, p.b0, p.b1, p.b2, p.b3, p.b4, p.L, (4 : Int)⟩) (by dsimp only [mu_kc5]; omega) (by dsimp only [pre_kc5]; first | (exfalso; omega) | exact ⟨g0, g1, g2, g3, by omega, by omega, by have e := shut_no (k := 3) g6 (by omega) (by simp [prB_f (by assumption)]); rw [show p.i + 1 = 4 by omega] at e; exact e⟩) hK rfl
 refine iI (fun hc13 => ?_) (fun hc13 => ?_)
 refine iI (fun hc14 => ?_) (fun hc14 => ?_)
 refine mI (by (first | omega | (simp [limP] <;> omega))) ?_
 refine callPR (⟨p.f.s4.l, (0 : Nat), p.f.s4.l.length - 0⟩ : A_clones_psub) rfl (by (try dsimp only [pre_clones_psub]); first | omega | (simp only [List.length_take, List.length_drop]; omega)) fun r1 hi15 => ?_
 dsimp only [po_clones_psub] at hi15
 exact bk_kc5 (q := ⟨p.h3, p.l3, ({ p.f with s4 := ⟨p.f.s4.l, p.f.s4.com, true = true⟩ } : F5), p.b0, p.b1, p.b2, p.b3, p.b4, max p.L (r1.o.length : Int), (5 : Int)⟩) (by dsimp only [mu_kc5]; omega) (by dsimp only [pre_kc5]; first | (exfalso; omega) | exact ⟨tr_shutO (i := 3) g0 rfl _, g1, g2, g3, by omega, by omega, by have e := shut_yes (k := 4) (l := p.f.s4.l) (rs' := [p.f.s0, p.f.s1, p.f.s2, p.f.s3, ⟨p.f.s4.l, p.f.s4.com, true = true⟩]) (p := true = true) (L' := max p.L (r1.o.length : Int)) g6 (by omega) rfl rfl rfl (by first | omega | (simp; omega)); rw [show p.i + 1 = 5 by omega] at e; exact e⟩) hK rfl
 exact bk_kc5 (q := ⟨p.h3, p.l3, p.f, p.b0, p.b1, p.b2, p.b3, p.b4, p.L, (5 : Int)⟩) (by dsimp only [mu_kc5]; omega) (by dsimp only [pre_kc5]; first | (exfalso; omega) | exact ⟨g0, g1, g2, g3, by omega, by omega, by have e := shut_no (k := 4) g6 (by omega) (by simp [prB_f (by assumption)]); rw [show p.i + 1 = 5 by omega] at e; exact e⟩) hK rfl
 refine iI (fun hc16 => ?_) (fun hc16 => ?_)
 exact fin_kc5 hK ⟨p.f, p.L⟩ (by dsimp only [po_kc5] <;> (first | (exfalso; omega) | exact ⟨g0, g1, g2, [prB p.b0, prB p.b1, prB p.b2, prB p.b3, prB p.b4], rfl, g3, by have e : p.i = 5 := (by omega); rw [e] at g6; exact g6⟩))
 refine mI (by omega) ?_
 rfl
theorem lo_kc : LpOk Try.prog 153 0 lp_rollKeeps true 2 bd_kc := by
 refine lp_of (lf := 600) tb_mix (cfT_ok nat_made_ok) (by rfl) I_kc mu_kc sp_kc (fun b j x h => by cases h) (fun S M nx K h => ?_) (fun p K h => ?_)
 ·have h : lpv_kc S M nx K = true := h
  unfold lpv_kc at h
  rcases var_ok h with ⟨_, h⟩ | ⟨_, h⟩
  ·obtain ⟨p, h⟩ := exB_ok h; exact ⟨.v1 p, (mustP_ok h).1, (mustP_ok h).2⟩
  rcases var_ok h with ⟨_, h⟩ | ⟨_, h⟩
  ·obtain ⟨p, h⟩ := exB_ok h; exact ⟨.v2 p, (mustP_ok h).1, (mustP_ok h).2⟩
  rcases var_ok h with ⟨_, h⟩ | ⟨_, h⟩
  ·obtain ⟨p, h⟩ := exB_ok h; exact ⟨.v3 p, (mustP_ok h).1, (mustP_ok h).2⟩
  rcases var_ok h with ⟨_, h⟩ | ⟨_, h⟩
  ·obtain ⟨p, h⟩ := exB_ok h; exact ⟨.v4 p, (mustP_ok h).1, (mustP_ok h).2⟩
  rcases var_ok h with ⟨_, h⟩ | ⟨_, h⟩
  ·obtain ⟨p, h⟩ := exB_ok h; exact ⟨.v5 p, (mustP_ok h).1, (mustP_ok h).2⟩
  cases h
 ·cases p with
  | v1 p => have h : sp_kc1 p K = true := h; exact vb_kc1 p K (mustP_ok h).1 (mustP_ok h).2
  | v2 p => have h : sp_kc2 p K = true := h; exact vb_kc2 p K (mustP_ok h).1 (mustP_ok h).2
  | v3 p => have h : sp_kc3 p K = true := h; exact vb_kc3 p K (mustP_ok h).1 (mustP_ok h).2
  | v4 p => have h : sp_kc4 p K = true := h; exact vb_kc4 p K (mustP_ok h).1 (mustP_ok h).2
  | v5 p => have h : sp_kc5 p K = true := h; exact vb_kc5 p K (mustP_ok h).1 (mustP_ok h).2
def bd_kd : XC := (.aft (.seq (.seq (g_ 4 [p_ 0 120 (m_ 17), p_ 1 121 (m_ 3), p_ 2 122 (k_ 121), p_ 3 123 (.bin 3 0 (.t 120) (.t 122))]) (.cond (.t 123) .skip (.exit 8))) (.seq (.block 9 (g_ 6 [p_ 0 126 (m_ 9), p_ 1 127 (m_ 3), p_ 2 128 (m_ 17), p_ 3 129 (.ixs 4 (.t 127) (.t 128)), r_ 4 130 (.ld true 4 (.t 129)), c_ 5 131 28 [.t 126, .t 130]])) (g_ 3 [p_ 0 124 (m_ 17), p_ 1 125 (.bin 0 0 (.t 124) (i_ 1)), p_ 2 17 (m_ 125)]))) [(0, [.can 0 [3, 9, 15, 17]]), (8, [.can 0 [9, 15]])])
theorem vb_kd1 (p : A_kd1) (K : KC) (hpre : pre_kd1 p) (hK : out_kd1 p K = true) : (codeX (cfT nat_made) lp_rollKeeps 600 bd_kd (I_kd1 p).1 (I_kd1 p).2.1 (I_kd1 p).2.2 (kk_kd (mu_kd (.v1 p)) K)) = true := by
 refine Eq.trans (b := (iP (p.i < (p.l3.length : Int)) (mP (0 ≤ p.i ∧ p.i < (p.l3.length : Int)) (allB fun x1 : StepR => iP (p.l3[p.i.toNat]? = some x1) (useC (([.ptr 0 0, .agg [.sy (.int 0 x1.k), .sy (.int 0 x1.x), .sy (.int 0 x1.n), .sy (.int 0 x1.i)]], (Fd1n p.f), 7)) I_step1 pre_step1 po_step1 fun p1 r1 => mP (InR 0 (p.i + (1 : Int))) (exB fun q1 : A_kd => mP (((.cons 17 (.sy (.int 0 (p.i + (1 : Int)))) (.cons 15 (.sy (.int 0 p.L)) (.cons 9 (.ptr 0 0) (.cons 3 (.sy (.imm p.h3 4 StepR p.l3 encS)) .nil)))), (Fd1n r1.f), 7) = I_kd q1 ∧ mu_kd q1 < mu_kd (.v1 p)) (sp_kd q1 K))) true)) (K 8 (.cons 15 (.sy (.int 0 p.L)) (.cons 9 (.ptr 0 0) .nil)) (Fd1n p.f) 7))) (by kernel_rfl) ?_
 dsimp only [pre_kd1] at hpre
 obtain ⟨g0, g1, g2, g3, g4, g5, g6⟩ := hpre
 refine iI (fun hc1 => ?_) (fun hc1 => ?_)
 refine mI (by first | omega | (constructor <;> omega)) ?_
 refine allB_mk (fun x1 => ?_)
 refine iI (fun hi2 => ?_) (fun _ => rfl)
 refine callPR (⟨p.f, x1.k, x1.x, x1.n, x1.i⟩ : A_step1) rfl (by (try dsimp only [pre_step1]); exact ⟨by assumption, by omega, by omega⟩) fun r1 hi3 => ?_
 dsimp only [po_step1] at hi3
 refine mI (by simp only [InR]; omega) ?_
 exact bk_kd1 (q := ⟨p.h3, p.l3, r1.f, p.L, p.i + (1 : Int)⟩) (by dsimp only [mu_kd1]; omega) (by dsimp only [pre_kd1]; exact ⟨hi3.1.1, by omega, by omega, by omega, by omega, by omega, held_frz g6 hi3.1.2⟩) hK rfl
 exact fin_kd1 hK ⟨p.f⟩ (by dsimp only [po_kd1] <;> (have g0 : FInv p.f.s0 _ _ _ := g0; exact ⟨g0, held_com (j := 0) g0 g6 rfl⟩))
theorem vb_kd2 (p : A_kd2) (K : KC) (hpre : pre_kd2 p) (hK : out_kd2 p K = true) : (codeX (cfT nat_made) lp_rollKeeps 600 bd_kd (I_kd2 p).1 (I_kd2 p).2.1 (I_kd2 p).2.2 (kk_kd (mu_kd (.v2 p)) K)) = true := by
 refine Eq.trans (b := (iP (p.i < (p.l3.length : Int)) (mP (0 ≤ p.i ∧ p.i < (p.l3.length : Int)) (allB fun x1 : StepR => iP (p.l3[p.i.toNat]? = some x1) (useC (([.ptr 0 0, .agg [.sy (.int 0 x1.k), .sy (.int 0 x1.x), .sy (.int 0 x1.n), .sy (.int 0 x1.i)]], (Fd2n p.f), 11)) I_step2 pre_step2 po_step2 fun p1 r1 => mP (InR 0 (p.i + (1 : Int))) (exB fun q1 : A_kd => mP (((.cons 17 (.sy (.int 0 (p.i + (1 : Int)))) (.cons 15 (.sy (.int 0 p.L)) (.cons 9 (.ptr 0 0) (.cons 3 (.sy (.imm p.h3 4 StepR p.l3 encS)) .nil)))), (Fd2n r1.f), 11) = I_kd q1 ∧ mu_kd q1 < mu_kd (.v2 p)) (sp_kd q1 K))) true)) (K 8 (.cons 15 (.sy (.int 0 p.L)) (.cons 9 (.ptr 0 0) .nil)) (Fd2n p.f) 11))) (by kernel_rfl) ?_
 dsimp only [pre_kd2] at hpre
 obtain ⟨g0, g1, g2, g3, g4, g5, g6⟩ := hpre
 refine iI (fun hc1 => ?_) (fun hc1 => ?_)
 refine mI (by first | omega | (constructor <;> omega)) ?_
 refine allB_mk (fun x1 => ?_)
 refine iI (fun hi2 => ?_) (fun _ => rfl)
 refine callPR (⟨p.f, x1.k, x1.x, x1.n, x1.i⟩ : A_step2) rfl (by (try dsimp only [pre_step2]); exact ⟨by assumption, by omega, by omega⟩) fun r1 hi3 => ?_
 dsimp only [po_step2] at hi3
 refine mI (by simp only [InR]; omega) ?_
 exact bk_kd2 (q := ⟨p.h3, p.l3, r1.f, p.L, p.i + (1 : Int)⟩) (by dsimp only [mu_kd2]; omega) (by dsimp only [pre_kd2]; exact ⟨hi3.1.1, by omega, by omega, by omega, by omega, by omega, held_frz g6 hi3.1.2⟩) hK rfl
 exact fin_kd2 hK ⟨p.f⟩ (by dsimp only [po_kd2] <;> (have g0 : FInv p.f.s0 _ _ _ := g0; exact ⟨g0, held_com (j := 0) g0 g6 rfl, held_com (j := 1) g0 g6 rfl⟩))
theorem vb_kd3 (p : A_kd3) (K : KC) (hpre : pre_kd3 p) (hK : out_kd3 p K = true) : (codeX (cfT nat_made) lp_rollKeeps 600 bd_kd (I_kd3 p).1 (I_kd3 p).2.1 (I_kd3 p).2.2 (kk_kd (mu_kd (.v3 p)) K)) = true := by
 refine Eq.trans (b := (iP (p.i < (p.l3.length : Int)) (mP (0 ≤ p.i ∧ p.i < (p.l3.length : Int)) (allB fun x1 : StepR => iP (p.l3[p.i.toNat]? = some x1) (useC (([.ptr 0 0, .agg [.sy (.int 0 x1.k), .sy (.int 0 x1.x), .sy (.int 0 x1.n), .sy (.int 0 x1.i)]], (Fd3n p.f), 15)) I_step3 pre_step3 po_step3 fun p1 r1 => mP (InR 0 (p.i + (1 : Int))) (exB fun q1 : A_kd => mP (((.cons 17 (.sy (.int 0 (p.i + (1 : Int)))) (.cons 15 (.sy (.int 0 p.L)) (.cons 9 (.ptr 0 0) (.cons 3 (.sy (.imm p.h3 4 StepR p.l3 encS)) .nil)))), (Fd3n r1.f), 15) = I_kd q1 ∧ mu_kd q1 < mu_kd (.v3 p)) (sp_kd q1 K))) true)) (K 8 (.cons 15 (.sy (.int 0 p.L)) (.cons 9 (.ptr 0 0) .nil)) (Fd3n p.f) 15))) (by kernel_rfl) ?_
 dsimp only [pre_kd3] at hpre
 obtain ⟨g0, g1, g2, g3, g4, g5, g6⟩ := hpre
 refine iI (fun hc1 => ?_) (fun hc1 => ?_)
 refine mI (by first | omega | (constructor <;> omega)) ?_
 refine allB_mk (fun x1 => ?_)
 refine iI (fun hi2 => ?_) (fun _ => rfl)
 refine callPR (⟨p.f, x1.k, x1.x, x1.n, x1.i⟩ : A_step3) rfl (by (try dsimp only [pre_step3]); exact ⟨by assumption, by omega, by omega⟩) fun r1 hi3 => ?_
 dsimp only [po_step3] at hi3
 refine mI (by simp only [InR]; omega) ?_
 exact bk_kd3 (q := ⟨p.h3, p.l3, r1.f, p.L, p.i + (1 : Int)⟩) (by dsimp only [mu_kd3]; omega) (by dsimp only [pre_kd3]; exact ⟨hi3.1.1, by omega, by omega, by omega, by omega, by omega, held_frz g6 hi3.1.2⟩) hK rfl
 exact fin_kd3 hK ⟨p.f⟩ (by dsimp only [po_kd3] <;> (have g0 : FInv p.f.s0 _ _ _ := g0; exact ⟨g0, held_com (j := 0) g0 g6 rfl, held_com (j := 1) g0 g6 rfl, held_com (j := 2) g0 g6 rfl⟩))
theorem vb_kd4 (p : A_kd4) (K : KC) (hpre : pre_kd4 p) (hK : out_kd4 p K = true) : (codeX (cfT nat_made) lp_rollKeeps 600 bd_kd (I_kd4 p).1 (I_kd4 p).2.1 (I_kd4 p).2.2 (kk_kd (mu_kd (.v4 p)) K)) = true := by
 refine Eq.trans (b := (iP (p.i < (p.l3.length : Int)) (mP (0 ≤ p.i ∧ p.i < (p.l3.length : Int)) (allB fun x1 : StepR => iP (p.l3[p.i.toNat]? = some x1) (useC (([.ptr 0 0, .agg [.sy (.int 0 x1.k), .sy (.int 0 x1.x), .sy (.int 0 x1.n), .sy (.int 0 x1.i)]], (Fd4n p.f), 19)) I_step4 pre_step4 po_step4 fun p1 r1 => mP (InR 0 (p.i + (1 : Int))) (exB fun q1 : A_kd => mP (((.cons 17 (.sy (.int 0 (p.i + (1 : Int)))) (.cons 15 (.sy (.int 0 p.L)) (.cons 9 (.ptr 0 0) (.cons 3 (.sy (.imm p.h3 4 StepR p.l3 encS)) .nil)))), (Fd4n r1.f), 19) = I_kd q1 ∧ mu_kd q1 < mu_kd (.v4 p)) (sp_kd q1 K))) true)) (K 8 (.cons 15 (.sy (.int 0 p.L)) (.cons 9 (.ptr 0 0) .nil)) (Fd4n p.f) 19))) (by kernel_rfl) ?_
 dsimp only [pre_kd4] at hpre
 obtain ⟨g0, g1, g2, g3, g4, g5, g6⟩ := hpre
 refine iI (fun hc1 => ?_) (fun hc1 => ?_)
 refine mI (by first | omega | (constructor <;> omega)) ?_
 refine allB_mk (fun x1 => ?_)
 refine iI (fun hi2 => ?_) (fun _ => rfl)
 refine callPR (⟨p.f, x1.k, x1.x, x1.n, x1.i⟩ : A_step4) rfl (by (try dsimp only [pre_step4]); exact ⟨by assumption, by omega, by omega⟩) fun r1 hi3 => ?_
 dsimp only [po_step4] at hi3
 refine mI (by simp only [InR]; omega) ?_
 exact bk_kd4 (q := ⟨p.h3, p.l3, r1.f, p.L, p.i + (1 : Int)⟩) (by dsimp only [mu_kd4]; omega) (by dsimp only [pre_kd4]; exact ⟨hi3.1.1, by omega, by omega, by omega, by omega, by omega, held_frz g6 hi3.1.2⟩) hK rfl
 exact fin_kd4 hK ⟨p.f⟩ (by dsimp only [po_kd4] <;> (have g0 : FInv p.f.s0 _ _ _ := g0; exact ⟨g0, held_com (j := 0) g0 g6 rfl, held_com (j := 1) g0 g6 rfl, held_com (j := 2) g0 g6 rfl, held_com (j := 3) g0 g6 rfl⟩))
theorem vb_kd5 (p : A_kd5) (K : KC) (hpre : pre_kd5 p) (hK : out_kd5 p K = true) : (codeX (cfT nat_made) lp_rollKeeps 600 bd_kd (I_kd5 p).1 (I_kd5 p).2.1 (I_kd5 p).2.2 (kk_kd (mu_kd (.v5 p)) K)) = true := by
 refine Eq.trans (b := (iP (p.i < (p.l3.length : Int)) (mP (0 ≤ p.i ∧ p.i < (p.l3.length : Int)) (allB fun x1 : StepR => iP (p.l3[p.i.toNat]? = some x1) (useC (([.ptr 0 0, .agg [.sy (.int 0 x1.k), .sy (.int 0 x1.x), .sy (.int 0 x1.n), .sy (.int 0 x1.i)]], (Fd5n p.f), 23)) I_step5 pre_step5 po_step5 fun p1 r1 => mP (InR 0 (p.i + (1 : Int))) (exB fun q1 : A_kd => mP (((.cons 17 (.sy (.int 0 (p.i + (1 : Int)))) (.cons 15 (.sy (.int 0 p.L)) (.cons 9 (.ptr 0 0) (.cons 3 (.sy (.imm p.h3 4 StepR p.l3 encS)) .nil)))), (Fd5n r1.f), 23) = I_kd q1 ∧ mu_kd q1 < mu_kd (.v5 p)) (sp_kd q1 K))) true)) (K 8 (.cons 15 (.sy (.int 0 p.L)) (.cons 9 (.ptr 0 0) .nil)) (Fd5n p.f) 23))) (by kernel_rfl) ?_
 dsimp only [pre_kd5] at hpre
 obtain ⟨g0, g1, g2, g3, g4, g5, g6⟩ := hpre
 refine iI (fun hc1 => ?_) (fun hc1 => ?_)
 refine mI (by first | omega | (constructor <;> omega)) ?_
 refine allB_mk (fun x1 => ?_)
 refine iI (fun hi2 => ?_) (fun _ => rfl)
 refine callPR (⟨p.f, x1.k, x1.x, x1.n, x1.i⟩ : A_step5) rfl (by (try dsimp only [pre_step5]); exact ⟨by assumption, by omega, by omega⟩) fun r1 hi3 => ?_
 dsimp only [po_step5] at hi3
 refine mI (by simp only [InR]; omega) ?_
 exact bk_kd5 (q := ⟨p.h3, p.l3, r1.f, p.L, p.i + (1 : Int)⟩) (by dsimp only [mu_kd5]; omega) (by dsimp only [pre_kd5]; exact ⟨hi3.1.1, by omega, by omega, by omega, by omega, by omega, held_frz g6 hi3.1.2⟩) hK rfl
 exact fin_kd5 hK ⟨p.f⟩ (by dsimp only [po_kd5] <;> (have g0 : FInv p.f.s0 _ _ _ := g0; exact ⟨g0, held_com (j := 0) g0 g6 rfl, held_com (j := 1) g0 g6 rfl, held_com (j := 2) g0 g6 rfl, held_com (j := 3) g0 g6 rfl, held_com (j := 4) g0 g6 rfl⟩))
theorem lo_kd : LpOk Try.prog 153 0 lp_rollKeeps true 3 bd_kd := by
 refine lp_of (lf := 600) tb_mix (cfT_ok nat_made_ok) (by rfl) I_kd mu_kd sp_kd (fun b j x h => by cases h) (fun S M nx K h => ?_) (fun p K h => ?_)
 ·have h : lpv_kd S M nx K = true := h
  unfold lpv_kd at h
  rcases var_ok h with ⟨_, h⟩ | ⟨_, h⟩
  ·obtain ⟨p, h⟩ := exB_ok h; exact ⟨.v1 p, (mustP_ok h).1, (mustP_ok h).2⟩
  rcases var_ok h with ⟨_, h⟩ | ⟨_, h⟩
  ·obtain ⟨p, h⟩ := exB_ok h; exact ⟨.v2 p, (mustP_ok h).1, (mustP_ok h).2⟩
  rcases var_ok h with ⟨_, h⟩ | ⟨_, h⟩
  ·obtain ⟨p, h⟩ := exB_ok h; exact ⟨.v3 p, (mustP_ok h).1, (mustP_ok h).2⟩
  rcases var_ok h with ⟨_, h⟩ | ⟨_, h⟩
  ·obtain ⟨p, h⟩ := exB_ok h; exact ⟨.v4 p, (mustP_ok h).1, (mustP_ok h).2⟩
  rcases var_ok h with ⟨_, h⟩ | ⟨_, h⟩
  ·obtain ⟨p, h⟩ := exB_ok h; exact ⟨.v5 p, (mustP_ok h).1, (mustP_ok h).2⟩
  cases h
 ·cases p with
  | v1 p => have h : sp_kd1 p K = true := h; exact vb_kd1 p K (mustP_ok h).1 (mustP_ok h).2
  | v2 p => have h : sp_kd2 p K = true := h; exact vb_kd2 p K (mustP_ok h).1 (mustP_ok h).2
  | v3 p => have h : sp_kd3 p K = true := h; exact vb_kd3 p K (mustP_ok h).1 (mustP_ok h).2
  | v4 p => have h : sp_kd4 p K = true := h; exact vb_kd4 p K (mustP_ok h).1 (mustP_ok h).2
  | v5 p => have h : sp_kd5 p K = true := h; exact vb_kd5 p K (mustP_ok h).1 (mustP_ok h).2
structure A_rollKeeps where
 n : Int
 h1 : Value
 l1 : List StepR
 h2 : Value
 l2 : List Int
 h3 : Value
 l3 : List StepR
noncomputable def I_rollKeeps (p : A_rollKeeps) : IE := ([.sy (.int 0 p.n), .sy (.imm p.h1 4 StepR p.l1 encS), .sy (.imm p.h2 1 Int p.l2 encZ), .sy (.imm p.h3 4 StepR p.l3 encS)], .leaf, 0)
noncomputable def out_rollKeeps (p : A_rollKeeps) (K : KE) : Bool := K (.bool true) .leaf 0
theorem vf_rollKeeps (p : A_rollKeeps) (K : KE) (hK : out_rollKeeps p K = true) : (funE 0 (cfT nat_made) lp_rollKeeps 600 ft_rollKeeps (I_rollKeeps p).1 (I_rollKeeps p).2.1 (I_rollKeeps p).2.2 K) = true := by
 refine Eq.trans (b := (let z0 : Bool := (K (.bool false) .leaf 0); let z1 : Bool := (K (.bool true) .leaf 0); iP ((100 : Int) < (p.l1.length : Int)) (exB fun p1 : A_knows => mP (([], .leaf, 0) = I_knows p1) z1) (iP ((100 : Int) < (p.l3.length : Int)) (exB fun p2 : A_knows => mP (([], .leaf, 0) = I_knows p2) z1) (iP ((20 : Int) < (p.l2.length : Int)) (exB fun p3 : A_knows => mP (([], .leaf, 0) = I_knows p3) z1) (exB fun p4 : A_knows => mP (([], .leaf, 0) = I_knows p4) (exB fun p5 : A_made => mP (([.sy (.int 0 p.n)], .leaf, 0) = I_made p5) (must (allB fun r21 : R_made => iP (po_made p5 r21) (useC (((.cons 10 (.sy (.int 0 0)) (.cons 9 (.ptr 0 0) (.cons 3 (.sy (.imm p.h3 4 StepR p.l3 encS)) (.cons 2 (.sy (.imm p.h2 1 Int p.l2 encZ)) (.cons 1 (.sy (.imm p.h1 4 StepR p.l1 encS)) .nil))))), (Fd1n r21.f), 7)) I_ka1 pre_ka1 po_ka1 fun p26 r22 => useC (((.cons 13 (.sy (.int 0 0)) (.cons 12 (.sy (.int 0 0)) (.cons 11 (.sl 1 0 1 (.ex 1)) (.cons 9 (.ptr 0 0) (.cons 3 (.sy (.imm p26.h3 4 StepR p26.l3 encS)) (.cons 2 (.sy (.imm p26.h2 1 Int p26.l2 encZ)) .nil)))))), (Fk1n r22.f (false = true)), 8)) I_kb1 pre_kb1 po_kb1 fun p27 r23 => mP (InR 0 ((2 : Int) * r23.c)) (iP (((2 : Int) * r23.c) ≤ (1 : Int)) z1 (useC (((.cons 16 (.sy (.int 0 0)) (.cons 15 (.sy (.int 0 0)) (.cons 11 (.sl 1 0 1 (.ex 1)) (.cons 9 (.ptr 0 0) (.cons 3 (.sy (.imm p27.h3 4 StepR p27.l3 encS)) .nil))))), (Fk1n p27.f r23.b0), 8)) I_kc1 pre_kc1 po_kc1 fun p28 r24 => useC (((.cons 17 (.sy (.int 0 0)) (.cons 15 (.sy (.int 0 r24.L)) (.cons 9 (.ptr 0 0) (.cons 3 (.sy (.imm p28.h3 4 StepR p28.l3 encS)) .nil)))), (Fd1n r24.f), 7)) I_kd1 pre_kd1 po_kd1 fun p29 r25 => iP (p29.L < r25.f.s0.com) z0 (exB fun p30 : A_right1 => mP (([.ptr 0 0], (Fd1n r25.f), 7) = I_right1 p30) (mP (pre_right1 p30) z1))))) true) (must (allB fun r16 : R_made1 => iP (po_made1 p5 r16) (useC (((.cons 10 (.sy (.int 0 0)) (.cons 9 (.ptr 0 0) (.cons 3 (.sy (.imm p.h3 4 StepR p.l3 encS)) (.cons 2 (.sy (.imm p.h2 1 Int p.l2 encZ)) (.cons 1 (.sy (.imm p.h1 4 StepR p.l1 encS)) .nil))))), (Fd2n r16.f), 11)) I_ka2 pre_ka2 po_ka2 fun p21 r17 => useC (((.cons 13 (.sy (.int 0 0)) (.cons 12 (.sy (.int 0 0)) (.cons 11 (.sl 1 0 2 (.ex 2)) (.cons 9 (.ptr 0 0) (.cons 3 (.sy (.imm p21.h3 4 StepR p21.l3 encS)) (.cons 2 (.sy (.imm p21.h2 1 Int p21.l2 encZ)) .nil)))))), (Fk2n r17.f (false = true) (false = true)), 12)) I_kb2 pre_kb2 po_kb2 fun p22 r18 => mP (InR 0 ((2 : Int) * r18.c)) (iP (((2 : Int) * r18.c) ≤ (2 : Int)) z1 (useC (((.cons 16 (.sy (.int 0 0)) (.cons 15 (.sy (.int 0 0)) (.cons 11 (.sl 1 0 2 (.ex 2)) (.cons 9 (.ptr 0 0) (.cons 3 (.sy (.imm p22.h3 4 StepR p22.l3 encS)) .nil))))), (Fk2n p22.f r18.b0 r18.b1), 12)) I_kc2 pre_kc2 po_kc2 fun p23 r19 => useC (((.cons 17 (.sy (.int 0 0)) (.cons 15 (.sy (.int 0 r19.L)) (.cons 9 (.ptr 0 0) (.cons 3 (.sy (.imm p23.h3 4 StepR p23.l3 encS)) .nil)))), (Fd2n r19.f), 11)) I_kd2 pre_kd2 po_kd2 fun p24 r20 => iP (p24.L < r20.f.s0.com) z0 (iP (p24.L < r20.f.s1.com) z0 (exB fun p25 : A_right2 => mP (([.ptr 0 0], (Fd2n r20.f), 11) = I_right2 p25) (mP (pre_right2 p25) z1)))))) true) (must (allB fun r11 : R_made2 => iP (po_made2 p5 r11) (useC (((.cons 10 (.sy (.int 0 0)) (.cons 9 (.ptr 0 0) (.cons 3 (.sy (.imm p.h3 4 StepR p.l3 encS)) (.cons 2 (.sy (.imm p.h2 1 Int p.l2 encZ)) (.cons 1 (.sy (.imm p.h1 4 StepR p.l1 encS)) .nil))))), (Fd3n r11.f), 15)) I_ka3 pre_ka3 po_ka3 fun p16 r12 => useC (((.cons 13 (.sy (.int 0 0)) (.cons 12 (.sy (.int 0 0)) (.cons 11 (.sl 1 0 3 (.ex 3)) (.cons 9 (.ptr 0 0) (.cons 3 (.sy (.imm p16.h3 4 StepR p16.l3 encS)) (.cons 2 (.sy (.imm p16.h2 1 Int p16.l2 encZ)) .nil)))))), (Fk3n r12.f (false = true) (false = true) (false = true)), 16)) I_kb3 pre_kb3 po_kb3 fun p17 r13 => mP (InR 0 ((2 : Int) * r13.c)) (iP (((2 : Int) * r13.c) ≤ (3 : Int)) z1 (useC (((.cons 16 (.sy (.int 0 0)) (.cons 15 (.sy (.int 0 0)) (.cons 11 (.sl 1 0 3 (.ex 3)) (.cons 9 (.ptr 0 0) (.cons 3 (.sy (.imm p17.h3 4 StepR p17.l3 encS)) .nil))))), (Fk3n p17.f r13.b0 r13.b1 r13.b2), 16)) I_kc3 pre_kc3 po_kc3 fun p18 r14 => useC (((.cons 17 (.sy (.int 0 0)) (.cons 15 (.sy (.int 0 r14.L)) (.cons 9 (.ptr 0 0) (.cons 3 (.sy (.imm p18.h3 4 StepR p18.l3 encS)) .nil)))), (Fd3n r14.f), 15)) I_kd3 pre_kd3 po_kd3 fun p19 r15 => iP (p19.L < r15.f.s0.com) z0 (iP (p19.L < r15.f.s1.com) z0 (iP (p19.L < r15.f.s2.com) z0 (exB fun p20 : A_right3 => mP (([.ptr 0 0], (Fd3n r15.f), 15) = I_right3 p20) (mP (pre_right3 p20) z1))))))) true) (must (allB fun r6 : R_made3 => iP (po_made3 p5 r6) (useC (((.cons 10 (.sy (.int 0 0)) (.cons 9 (.ptr 0 0) (.cons 3 (.sy (.imm p.h3 4 StepR p.l3 encS)) (.cons 2 (.sy (.imm p.h2 1 Int p.l2 encZ)) (.cons 1 (.sy (.imm p.h1 4 StepR p.l1 encS)) .nil))))), (Fd4n r6.f), 19)) I_ka4 pre_ka4 po_ka4 fun p11 r7 => useC (((.cons 13 (.sy (.int 0 0)) (.cons 12 (.sy (.int 0 0)) (.cons 11 (.sl 1 0 4 (.ex 4)) (.cons 9 (.ptr 0 0) (.cons 3 (.sy (.imm p11.h3 4 StepR p11.l3 encS)) (.cons 2 (.sy (.imm p11.h2 1 Int p11.l2 encZ)) .nil)))))), (Fk4n r7.f (false = true) (false = true) (false = true) (false = true)), 20)) I_kb4 pre_kb4 po_kb4 fun p12 r8 => mP (InR 0 ((2 : Int) * r8.c)) (iP (((2 : Int) * r8.c) ≤ (4 : Int)) z1 (useC (((.cons 16 (.sy (.int 0 0)) (.cons 15 (.sy (.int 0 0)) (.cons 11 (.sl 1 0 4 (.ex 4)) (.cons 9 (.ptr 0 0) (.cons 3 (.sy (.imm p12.h3 4 StepR p12.l3 encS)) .nil))))), (Fk4n p12.f r8.b0 r8.b1 r8.b2 r8.b3), 20)) I_kc4 pre_kc4 po_kc4 fun p13 r9 => useC (((.cons 17 (.sy (.int 0 0)) (.cons 15 (.sy (.int 0 r9.L)) (.cons 9 (.ptr 0 0) (.cons 3 (.sy (.imm p13.h3 4 StepR p13.l3 encS)) .nil)))), (Fd4n r9.f), 19)) I_kd4 pre_kd4 po_kd4 fun p14 r10 => iP (p14.L < r10.f.s0.com) z0 (iP (p14.L < r10.f.s1.com) z0 (iP (p14.L < r10.f.s2.com) z0 (iP (p14.L < r10.f.s3.com) z0 (exB fun p15 : A_right4 => mP (([.ptr 0 0], (Fd4n r10.f), 19) = I_right4 p15) (mP (pre_right4 p15) z1)))))))) true) (allB fun r1 : R_made4 => iP (po_made4 p5 r1) (useC (((.cons 10 (.sy (.int 0 0)) (.cons 9 (.ptr 0 0) (.cons 3 (.sy (.imm p.h3 4 StepR p.l3 encS)) (.cons 2 (.sy (.imm p.h2 1 Int p.l2 encZ)) (.cons 1 (.sy (.imm p.h1 4 StepR p.l1 encS)) .nil))))), (Fd5n r1.f), 23)) I_ka5 pre_ka5 po_ka5 fun p6 r2 => useC (((.cons 13 (.sy (.int 0 0)) (.cons 12 (.sy (.int 0 0)) (.cons 11 (.sl 1 0 5 (.ex 5)) (.cons 9 (.ptr 0 0) (.cons 3 (.sy (.imm p6.h3 4 StepR p6.l3 encS)) (.cons 2 (.sy (.imm p6.h2 1 Int p6.l2 encZ)) .nil)))))), (Fk5n r2.f (false = true) (false = true) (false = true) (false = true) (false = true)), 24)) I_kb5 pre_kb5 po_kb5 fun p7 r3 => mP (InR 0 ((2 : Int) * r3.c)) (iP (((2 : Int) * r3.c) ≤ (5 : Int)) z1 (useC (((.cons 16 (.sy (.int 0 0)) (.cons 15 (.sy (.int 0 0)) (.cons 11 (.sl 1 0 5 (.ex 5)) (.cons 9 (.ptr 0 0) (.cons 3 (.sy (.imm p7.h3 4 StepR p7.l3 encS)) .nil))))), (Fk5n p7.f r3.b0 r3.b1 r3.b2 r3.b3 r3.b4), 24)) I_kc5 pre_kc5 po_kc5 fun p8 r4 => useC (((.cons 17 (.sy (.int 0 0)) (.cons 15 (.sy (.int 0 r4.L)) (.cons 9 (.ptr 0 0) (.cons 3 (.sy (.imm p8.h3 4 StepR p8.l3 encS)) .nil)))), (Fd5n r4.f), 23)) I_kd5 pre_kd5 po_kd5 fun p9 r5 => iP (p9.L < r5.f.s0.com) z0 (iP (p9.L < r5.f.s1.com) z0 (iP (p9.L < r5.f.s2.com) z0 (iP (p9.L < r5.f.s3.com) z0 (iP (p9.L < r5.f.s4.com) z0 (exB fun p10 : A_right5 => mP (([.ptr 0 0], (Fd5n r5.f), 23) = I_right5 p10) (mP (pre_right5 p10) z1))))))))) true))))))))))) (by kernel_rfl) ?_
 refine iI (fun hc1 => ?_) (fun hc1 => ?_)
 refine exB_mk ⟨⟩ ?_
 refine mI (rfl) ?_
 exact hK
 refine iI (fun hc2 => ?_) (fun hc2 => ?_)
 refine exB_mk ⟨⟩ ?_
 refine mI (rfl) ?_
 exact hK
 refine iI (fun hc3 => ?_) (fun hc3 => ?_)
 refine exB_mk ⟨⟩ ?_
 refine mI (rfl) ?_
 exact hK
 refine exB_mk ⟨⟩ ?_
 refine mI (rfl) ?_
 refine exB_mk (⟨p.n⟩ : A_made) ?_
 refine mI (rfl) ?_
 refine must_mk ?_ ?_
 refine allB_mk (fun r21 => ?_)
 refine iI (p := FI1 r21.f ∧ r21.f.cnt = 0) (fun hi4 => ?_) (fun _ => rfl)
 refine callPR (⟨p.h1, p.l1, p.h2, p.l2, p.h3, p.l3, r21.f, (0 : Int)⟩ : A_ka1) rfl (by (try dsimp only [pre_ka1]); exact ⟨hi4.1, by omega, by omega, by omega, by omega, by omega⟩) fun r22 hi5 => ?_
 dsimp only [po_ka1] at hi5
 refine callPR (⟨p.h2, p.l2, p.h3, p.l3, r22.f, false = true, (0 : Int), (0 : Int)⟩ : A_kb1) rfl (by (try dsimp only [pre_kb1]); exact ⟨by simp [cntB, prB], by omega, by omega, by omega⟩) fun r23 hi6 => ?_
 dsimp only [po_kb1] at hi6
 refine mI (by simp only [InR]; omega) ?_
 refine iI (fun hc7 => ?_) (fun hc7 => ?_)
 exact hK
 refine callPR (⟨p.h3, p.l3, r22.f, r23.b0, (0 : Int), (0 : Int)⟩ : A_kc1) rfl (by (try dsimp only [pre_kc1]); exact ⟨(by assumption : FI1 _ ∧ _ ∧ _).1, by omega, by omega, by omega, by omega, by omega, shut_zero _ _ _⟩) fun r24 hi8 => ?_
 dsimp only [po_kc1] at hi8
 refine callPR (⟨p.h3, p.l3, r24.f, r24.L, (0 : Int)⟩ : A_kd1) rfl (by (try dsimp only [pre_kd1]); exact ⟨hi8.1, by omega, by omega, by omega, by omega, by omega, hi8.2.2.2⟩) fun r25 hi9 => ?_
 dsimp only [po_kd1] at hi9
 refine iI (p := r24.L < r25.f.s0.com) (fun hc10 => ?_) (fun hc10 => ?_)
 exfalso; omega
 refine callP (⟨r25.f⟩ : A_right1) rfl (by (try dsimp only [pre_right1]); first | assumption | exact hi9.1.1 | exact hi9.1) ?_
 exact hK
 refine must_mk ?_ ?_
 refine allB_mk (fun r16 => ?_)
 refine iI (p := FI2 r16.f ∧ r16.f.cnt = 0) (fun hi11 => ?_) (fun _ => rfl)
 refine callPR (⟨p.h1, p.l1, p.h2, p.l2, p.h3, p.l3, r16.f, (0 : Int)⟩ : A_ka2) rfl (by (try dsimp only [pre_ka2]); exact ⟨hi11.1, by omega, by omega, by omega, by omega, by omega⟩) fun r17 hi12 => ?_
 dsimp only [po_ka2] at hi12
 refine callPR (⟨p.h2, p.l2, p.h3, p.l3, r17.f, false = true, false = true, (0 : Int), (0 : Int)⟩ : A_kb2) rfl (by (try dsimp only [pre_kb2]); exact ⟨by simp [cntB, prB], by omega, by omega, by omega⟩) fun r18 hi13 => ?_
 dsimp only [po_kb2] at hi13
 refine mI (by simp only [InR]; omega) ?_
 refine iI (fun hc14 => ?_) (fun hc14 => ?_)
 exact hK
 refine callPR (⟨p.h3, p.l3, r17.f, r18.b0, r18.b1, (0 : Int), (0 : Int)⟩ : A_kc2) rfl (by (try dsimp only [pre_kc2]); exact ⟨(by assumption : FI2 _ ∧ _ ∧ _).1, by omega, by omega, by omega, by omega, by omega, shut_zero _ _ _⟩) fun r19 hi15 => ?_
 dsimp only [po_kc2] at hi15
 refine callPR (⟨p.h3, p.l3, r19.f, r19.L, (0 : Int)⟩ : A_kd2) rfl (by (try dsimp only [pre_kd2]); exact ⟨hi15.1, by omega, by omega, by omega, by omega, by omega, hi15.2.2.2⟩) fun r20 hi16 => ?_
 dsimp only [po_kd2] at hi16
 refine iI (p := r19.L < r20.f.s0.com) (fun hc17 => ?_) (fun hc17 => ?_)
 exfalso; omega
 refine iI (p := r19.L < r20.f.s1.com) (fun hc18 => ?_) (fun hc18 => ?_)
 exfalso; omega
 refine callP (⟨r20.f⟩ : A_right2) rfl (by (try dsimp only [pre_right2]); first | assumption | exact hi16.1.1 | exact hi16.1) ?_
 exact hK
 refine must_mk ?_ ?_
 refine allB_mk (fun r11 => ?_)
 refine iI (p := FI3 r11.f ∧ r11.f.cnt = 0) (fun hi19 => ?_) (fun _ => rfl)
 refine callPR (⟨p.h1, p.l1, p.h2, p.l2, p.h3, p.l3, r11.f, (0 : Int)⟩ : A_ka3) rfl (by (try dsimp only [pre_ka3]); exact ⟨hi19.1, by omega, by omega, by omega, by omega, by omega⟩) fun r12 hi20 => ?_
 dsimp only [po_ka3] at hi20
 refine callPR (⟨p.h2, p.l2, p.h3, p.l3, r12.f, false = true, false = true, false = true, (0 : Int), (0 : Int)⟩ : A_kb3) rfl (by (try dsimp only [pre_kb3]); exact ⟨by simp [cntB, prB], by omega, by omega, by omega⟩) fun r13 hi21 => ?_
 dsimp only [po_kb3] at hi21
 refine mI (by simp only [InR]; omega) ?_
 refine iI (fun hc22 => ?_) (fun hc22 => ?_)
 exact hK
 refine callPR (⟨p.h3, p.l3, r12.f, r13.b0, r13.b1, r13.b2, (0 : Int), (0 : Int)⟩ : A_kc3) rfl (by (try dsimp only [pre_kc3]); exact ⟨(by assumption : FI3 _ ∧ _ ∧ _).1, by omega, by omega, by omega, by omega, by omega, shut_zero _ _ _⟩) fun r14 hi23 => ?_
 dsimp only [po_kc3] at hi23
 refine callPR (⟨p.h3, p.l3, r14.f, r14.L, (0 : Int)⟩ : A_kd3) rfl (by (try dsimp only [pre_kd3]); exact ⟨hi23.1, by omega, by omega, by omega, by omega, by omega, hi23.2.2.2⟩) fun r15 hi24 => ?_
 dsimp only [po_kd3] at hi24
 refine iI (p := r14.L < r15.f.s0.com) (fun hc25 => ?_) (fun hc25 => ?_)
 exfalso; omega
 refine iI (p := r14.L < r15.f.s1.com) (fun hc26 => ?_) (fun hc26 => ?_)
 exfalso; omega
 refine iI (p := r14.L < r15.f.s2.com) (fun hc27 => ?_) (fun hc27 => ?_)
 exfalso; omega
 refine callP (⟨r15.f⟩ : A_right3) rfl (by (try dsimp only [pre_right3]); first | assumption | exact hi24.1.1 | exact hi24.1) ?_
 exact hK
 refine must_mk ?_ ?_
 refine allB_mk (fun r6 => ?_)
 refine iI (p := FI4 r6.f ∧ r6.f.cnt = 0) (fun hi28 => ?_) (fun _ => rfl)
 refine callPR (⟨p.h1, p.l1, p.h2, p.l2, p.h3, p.l3, r6.f, (0 : Int)⟩ : A_ka4) rfl (by (try dsimp only [pre_ka4]); exact ⟨hi28.1, by omega, by omega, by omega, by omega, by omega⟩) fun r7 hi29 => ?_
 dsimp only [po_ka4] at hi29
 refine callPR (⟨p.h2, p.l2, p.h3, p.l3, r7.f, false = true, false = true, false = true, false = true, (0 : Int), (0 : Int)⟩ : A_kb4) rfl (by (try dsimp only [pre_kb4]); exact ⟨by simp [cntB, prB], by omega, by omega, by omega⟩) fun r8 hi30 => ?_
 dsimp only [po_kb4] at hi30
 refine mI (by simp only [InR]; omega) ?_
 refine iI (fun hc31 => ?_) (fun hc31 => ?_)
 exact hK
 refine callPR (⟨p.h3, p.l3, r7.f, r8.b0, r8.b1, r8.b2, r8.b3, (0 : Int), (0 : Int)⟩ : A_kc4) rfl (by (try dsimp only [pre_kc4]); exact ⟨(by assumption : FI4 _ ∧ _ ∧ _).1, by omega, by omega, by omega, by omega, by omega, shut_zero _ _ _⟩) fun r9 hi32 => ?_
 dsimp only [po_kc4] at hi32
 refine callPR (⟨p.h3, p.l3, r9.f, r9.L, (0 : Int)⟩ : A_kd4) rfl (by (try dsimp only [pre_kd4]); exact ⟨hi32.1, by omega, by omega, by omega, by omega, by omega, hi32.2.2.2⟩) fun r10 hi33 => ?_
 dsimp only [po_kd4] at hi33
 refine iI (p := r9.L < r10.f.s0.com) (fun hc34 => ?_) (fun hc34 => ?_)
 exfalso; omega
 refine iI (p := r9.L < r10.f.s1.com) (fun hc35 => ?_) (fun hc35 => ?_)
 exfalso; omega
 refine iI (p := r9.L < r10.f.s2.com) (fun hc36 => ?_) (fun hc36 => ?_)
 exfalso; omega
 refine iI (p := r9.L < r10.f.s3.com) (fun hc37 => ?_) (fun hc37 => ?_)
 exfalso; omega
 refine callP (⟨r10.f⟩ : A_right4) rfl (by (try dsimp only [pre_right4]); first | assumption | exact hi33.1.1 | exact hi33.1) ?_
 exact hK
 refine allB_mk (fun r1 => ?_)
 refine iI (p := FI5 r1.f ∧ r1.f.cnt = 0) (fun hi38 => ?_) (fun _ => rfl)
 refine callPR (⟨p.h1, p.l1, p.h2, p.l2, p.h3, p.l3, r1.f, (0 : Int)⟩ : A_ka5) rfl (by (try dsimp only [pre_ka5]); exact ⟨hi38.1, by omega, by omega, by omega, by omega, by omega⟩) fun r2 hi39 => ?_
 dsimp only [po_ka5] at hi39
 refine callPR (⟨p.h2, p.l2, p.h3, p.l3, r2.f, false = true, false = true, false = true, false = true, false = true, (0 : Int), (0 : Int)⟩ : A_kb5) rfl (by (try dsimp only [pre_kb5]); exact ⟨by simp [cntB, prB], by omega, by omega, by omega⟩) fun r3 hi40 => ?_
 dsimp only [po_kb5] at hi40
 refine mI (by simp only [InR]; omega) ?_
 refine iI (fun hc41 => ?_) (fun hc41 => ?_)
 exact hK
 refine callPR (⟨p.h3, p.l3, r2.f, r3.b0, r3.b1, r3.b2, r3.b3, r3.b4, (0 : Int), (0 : Int)⟩ : A_kc5) rfl (by (try dsimp only [pre_kc5]); exact ⟨(by assumption : FI5 _ ∧ _ ∧ _).1, by omega, by omega, by omega, by omega, by omega, shut_zero _ _ _⟩) fun r4 hi42 => ?_
 dsimp only [po_kc5] at hi42
 refine callPR (⟨p.h3, p.l3, r4.f, r4.L, (0 : Int)⟩ : A_kd5) rfl (by (try dsimp only [pre_kd5]); exact ⟨hi42.1, by omega, by omega, by omega, by omega, by omega, hi42.2.2.2⟩) fun r5 hi43 => ?_
 dsimp only [po_kd5] at hi43
 refine iI (p := r4.L < r5.f.s0.com) (fun hc44 => ?_) (fun hc44 => ?_)
 exfalso; omega
 refine iI (p := r4.L < r5.f.s1.com) (fun hc45 => ?_) (fun hc45 => ?_)
 exfalso; omega
 refine iI (p := r4.L < r5.f.s2.com) (fun hc46 => ?_) (fun hc46 => ?_)
 exfalso; omega
 refine iI (p := r4.L < r5.f.s3.com) (fun hc47 => ?_) (fun hc47 => ?_)
 exfalso; omega
 refine iI (p := r4.L < r5.f.s4.com) (fun hc48 => ?_) (fun hc48 => ?_)
 exfalso; omega
 refine callP (⟨r5.f⟩ : A_right5) rfl (by (try dsimp only [pre_right5]); first | assumption | exact hi43.1.1 | exact hi43.1) ?_
 exact hK
theorem na_rollKeeps : NatE Try.prog 6 0 (esOf I_rollKeeps out_rollKeeps) := (natE_said (f := 6) (k := 0) (lp := lp_rollKeeps) (lf := 600) tb_mix (cfT_ok nat_made_ok) ft_rollKeeps_ok (by rfl) (fun b j x h => (mem_step lo_ka (fun h => (mem_step lo_kb (fun h => (mem_step lo_kc (fun h => (mem_step lo_kd (fun h => (by cases h)) h)) h)) h)) h)) fun p K h => vf_rollKeeps p K h)
end Go.Proofs.Try
namespace Go.Proofs.Ytkahniffcehicaa.rollKeeps
open Go Go.RowKit Go.Eng Go.Sy Go.ChangeShapes Go.WideShapes Go.ChangeAt
open Go.Proofs.Try (StepR)
set_option linter.unusedVariables false
set_option maxRecDepth 100000
theorem leafs74 : Leafs Try.prog 20 74 = some [3, 3, 3, 3] := by kernel_rfl
theorem open_S {H : Type} {en : TypeId × Value → H} {W : World} {fuel : Nat} {cs : List Value} {x : DataW H × List MemPlace} (h : DataW.trod en Try.prog W 0 (fun _ => true) true fuel 69 cs = some x) :
  ∃ (ao : Option Addr) (cap : Nat) (t : List StepR), cs = [.slice ao t.length cap] ∧ RdF (fun x => (Go.Proofs.Try.encS x).map valP) 4 (GS.of W).M ao cap t := by
 rcases Go.Deep.open_slice Try.underlying69 h with ⟨rfl, _⟩ | ⟨a, len, cap, m, n, D, Pl, rfl, _, hl, hm, rfl, _, hel⟩
 ·exact ⟨none, 0, [], rfl, RdF.nil _ _ _ _⟩
 ·obtain ⟨t, ht, hp⟩ := list_of (p := fun i (x : StepR) => W.cells? 0 (a.add (i * 4)) 4 = some ((Go.Proofs.Try.encS x).map valP)) len (fun i hi => by
   obtain ⟨cs2, h1, h2⟩ := hel i (by first | omega | (simp; omega))
   obtain ⟨hlen, hleaf⟩ := leafs_trod 20 74 _ leafs74 _ _ _ h2
   obtain ⟨c0, c1, c2, c3, rfl⟩ : ∃ c0 c1 c2 c3, cs2 = [c0, c1, c2, c3] := by
    match cs2, hlen with
    | [c0, c1, c2, c3], _ => exact ⟨c0, c1, c2, c3, rfl⟩
   obtain ⟨z0, rfl, w0⟩ := leaf_int Try.underlying3 (hleaf 0 _ _ rfl rfl)
   obtain ⟨z1, rfl, w1⟩ := leaf_int Try.underlying3 (hleaf 1 _ _ rfl rfl)
   obtain ⟨z2, rfl, w2⟩ := leaf_int Try.underlying3 (hleaf 2 _ _ rfl rfl)
   obtain ⟨z3, rfl, w3⟩ := leaf_int Try.underlying3 (hleaf 3 _ _ rfl rfl)
   exact ⟨⟨z0, z1, z2, z3⟩, h1⟩)
  subst ht
  exact ⟨some a, _, t, rfl, rdf_of (base := 0) hl hm (by decide) (fun _ => rfl) hp⟩
theorem ok_S {M : Mem} {ao : Option Addr} {cap : Nat} {t : List StepR} (h : RdF (fun x => (Go.Proofs.Try.encS x).map valP) 4 M ao cap t) : OkP M (.imm (.slice ao t.length cap) 4 StepR t Go.Proofs.Try.encS) :=
 .imm ao cap rfl h.le h.cap (by decide) h.addr (fun x _ => rfl) (fun x _ p hp => by
  simp only [Go.Proofs.Try.encS, List.mem_cons, List.not_mem_nil, or_false] at hp
  rcases hp with rfl | rfl | rfl | rfl <;> exact .sint _ _) h.row
theorem leafs3 : Leafs Try.prog 20 3 = some [3] := by kernel_rfl
theorem open_Z {H : Type} {en : TypeId × Value → H} {W : World} {fuel : Nat} {cs : List Value} {x : DataW H × List MemPlace} (h : DataW.trod en Try.prog W 0 (fun _ => true) true fuel 76 cs = some x) :
  ∃ (ao : Option Addr) (cap : Nat) (t : List Int), cs = [.slice ao t.length cap] ∧ RdF (fun x => (Go.Proofs.Try.encZ x).map valP) 1 (GS.of W).M ao cap t := by
 rcases Go.Deep.open_slice Try.underlying76 h with ⟨rfl, _⟩ | ⟨a, len, cap, m, n, D, Pl, rfl, _, hl, hm, rfl, _, hel⟩
 ·exact ⟨none, 0, [], rfl, RdF.nil _ _ _ _⟩
 ·obtain ⟨t, ht, hp⟩ := list_of (p := fun i (x : Int) => W.cells? 0 (a.add (i * 1)) 1 = some ((Go.Proofs.Try.encZ x).map valP)) len (fun i hi => by
   obtain ⟨cs2, h1, h2⟩ := hel i (by first | omega | (simp; omega))
   obtain ⟨hlen, hleaf⟩ := leafs_trod 20 3 _ leafs3 _ _ _ h2
   obtain ⟨c0, rfl⟩ : ∃ c0, cs2 = [c0] := by
    match cs2, hlen with
    | [c0], _ => exact ⟨c0, rfl⟩
   obtain ⟨z0, rfl, w0⟩ := leaf_int Try.underlying3 (hleaf 0 _ _ rfl rfl)
   exact ⟨z0, h1⟩)
  subst ht
  exact ⟨some a, _, t, rfl, rdf_of (base := 0) hl hm (by decide) (fun _ => rfl) hp⟩
theorem ok_Z {M : Mem} {ao : Option Addr} {cap : Nat} {t : List Int} (h : RdF (fun x => (Go.Proofs.Try.encZ x).map valP) 1 M ao cap t) : OkP M (.imm (.slice ao t.length cap) 1 Int t Go.Proofs.Try.encZ) :=
 .imm ao cap rfl h.le h.cap (by decide) h.addr (fun x _ => rfl) (fun x _ p hp => by
  simp only [Go.Proofs.Try.encZ, List.mem_cons, List.not_mem_nil, or_false] at hp
  rcases hp with rfl <;> exact .sint _ _) h.row
theorem own : ownKnob Try.prog.godebug = none := by kernel_rfl
theorem laidOut : laidOutB Try.prog = true := by kernel_rfl
theorem walk (a0 : Int) (o1 : Option Addr) (k1 : Nat) (t1 : List StepR) (o2 : Option Addr) (k2 : Nat) (t2 : List Int) (o3 : Option Addr) (k3 : Nat) (t3 : List StepR) (w : World) (h1 : RdF (fun x => (Go.Proofs.Try.encS x).map valP) 4 (GS.of w).M o1 k1 t1) (h2 : RdF (fun x => (Go.Proofs.Try.encZ x).map valP) 1 (GS.of w).M o2 k2 t2) (h3 : RdF (fun x => (Go.Proofs.Try.encS x).map valP) 4 (GS.of w).M o3 k3 t3) : Calls Try.prog 6 #[.int .i64 a0, .slice o1 t1.length k1, .slice o2 t2.length k2, .slice o3 t3.length k3] w (Ret (GS.of w) [] fun _ v => v = .bool true) := by
 let K : AV → T → Nat → Bool := fun v _ _ => prB (v = .bool true)
 have hE : EOk ⟨fun _ => .bool true, (GS.of w).M⟩ := fun i => rfl
 have hd : denL ⟨fun _ => .bool true, (GS.of w).M⟩ (fun _ => none) [.sy (.int 0 a0), .sy (.imm (.slice o1 t1.length k1) 4 StepR t1 Go.Proofs.Try.encS), .sy (.imm (.slice o2 t2.length k2) 1 Int t2 Go.Proofs.Try.encZ), .sy (.imm (.slice o3 t3.length k3) 4 StepR t3 Go.Proofs.Try.encS)] = some [.int .i64 a0, .slice o1 t1.length k1, .slice o2 t2.length k2, .slice o3 t3.length k3] := by
  simp only [denL, den, denS, denP_mk (E := ⟨fun _ => .bool true, (GS.of w).M⟩) (ok_S h1), denP_mk (E := ⟨fun _ => .bool true, (GS.of w).M⟩) (ok_Z h2), denP_mk (E := ⟨fun _ => .bool true, (GS.of w).M⟩) (ok_S h3), valP, kOf]
 refine Try.na_rollKeeps [.sy (.int 0 a0), .sy (.imm (.slice o1 t1.length k1) 4 StepR t1 Go.Proofs.Try.encS), .sy (.imm (.slice o2 t2.length k2) 1 Int t2 Go.Proofs.Try.encZ), .sy (.imm (.slice o3 t3.length k3) 4 StepR t3 Go.Proofs.Try.encS)] [.int .i64 a0, .slice o1 t1.length k1, .slice o2 t2.length k2, .slice o3 t3.length k3] ⟨fun _ => .bool true, (GS.of w).M⟩ (fun _ => none) (GS.of w) [] .leaf 0 w K _ hE (Sim.start rfl (Holds.start w)) hd ?_ ?_
 ·exact exB_mk ⟨a0, .slice o1 t1.length k1, t1, .slice o2 t2.length k2, t2, .slice o3 t3.length k3, t3⟩ (mustP rfl (prB_true.2 rfl))
 ·intro v M' nx' E' ρ' w' z hk h1 h2 h3 h4 h5
  obtain ⟨G', g1, g2, g3⟩ := h4.holds
  refine ⟨z, G', rfl, g1, g2, ?_⟩
  have := prB_true.1 hk
  subst this
  simpa [den] using h5.symm
set_option maxRecDepth 100000 in
theorem lifted (os : Os) (started : os.Started) (H : Type) (enc : TypeId × Value → H) :
  ReturnsInHanded {} Try.checked os 6 .any (Rows.rollKeepsSpec.pre6 enc Try.prog Try.f6 Rows.rollKeepsRow.domain false) (Rows.rollKeepsSpec.post enc Try.prog Try.f6 false true false false) := by
 refine returnsInHanded_of_change (C := Try.checked) own started (by kernel_rfl) Try.func6
  (ChangeSpec.witness6 (enc := enc) (C := Try.checked) false ⟨#[], #[.int .i64 0, .slice none 0 0, .slice none 0 0, .slice none 0 0], []⟩ 8 (by kernel_rfl) (by kernel_rfl) (by kernel_rfl) (by kernel_rfl)) ?_
 intro W base args ds gs before hval0 hW hcnd _
 have hval : ∀ (j : Nat) t v, Try.f6.params[j]? = some t → args[j]? = some v → Value.okWide Try.prog W .any base t v := hval0
 have hW' := hW
 obtain ⟨p, q, hA0, hV, rfl, hfz, hnd⟩ := hW
 have hA : DataW.TrodAll enc Try.prog W 0 (fun _ => true) true Try.f6.params.toList args.toList ds p := hA0
 rw [Try.params6] at hA hval
 obtain ⟨v0, vs0, d0, ds0, p0, q0, hargs, rfl, rfl, h0, r0⟩ := trodAll_cons hA
 obtain ⟨v1, vs1, d1, ds1, p1, q1, rfl, rfl, rfl, h1, r1⟩ := trodAll_cons r0
 obtain ⟨v2, vs2, d2, ds2, p2, q2, rfl, rfl, rfl, h2, r2⟩ := trodAll_cons r1
 obtain ⟨v3, vs3, d3, ds3, p3, q3, rfl, rfl, rfl, h3, r3⟩ := trodAll_cons r2
 obtain ⟨rfl, rfl, rfl⟩ := trodAll_nil r3
 obtain rfl : args = #[v0, v1, v2, v3] := by cases args; simp_all
 obtain ⟨rfl, rfl⟩ := trodVars_none hV
 obtain ⟨a0, rfl, rfl, rfl, w0⟩ := open_int Try.underlying3 (hval 0 3 v0 rfl rfl) h0
 obtain ⟨b1, len1, cap1, rfl⟩ := okWide_slice Try.underlying69 (hval 1 69 v1 rfl rfl)
 have j1 := h1
 have lt1 : ∀ x ∈ p1, x.block < W.heap.size := by obtain ⟨m, hm⟩ := j1; exact DataW.trod_lt m _ _ _ hm
 obtain ⟨fuel1, hf1⟩ := h1
 obtain ⟨ao1, ca1, t1, hc1, hr1⟩ := open_S hf1
 simp only [Value.cells, List.cons.injEq, Value.slice.injEq, and_true] at hc1
 obtain ⟨rfl, rfl, rfl⟩ := hc1
 obtain ⟨b2, len2, cap2, rfl⟩ := okWide_slice Try.underlying76 (hval 2 76 v2 rfl rfl)
 have j2 := h2
 have lt2 : ∀ x ∈ p2, x.block < W.heap.size := by obtain ⟨m, hm⟩ := j2; exact DataW.trod_lt m _ _ _ hm
 obtain ⟨fuel2, hf2⟩ := h2
 obtain ⟨ao2, ca2, t2, hc2, hr2⟩ := open_Z hf2
 simp only [Value.cells, List.cons.injEq, Value.slice.injEq, and_true] at hc2
 obtain ⟨rfl, rfl, rfl⟩ := hc2
 obtain ⟨b3, len3, cap3, rfl⟩ := okWide_slice Try.underlying69 (hval 3 69 v3 rfl rfl)
 have j3 := h3
 have lt3 : ∀ x ∈ p3, x.block < W.heap.size := by obtain ⟨m, hm⟩ := j3; exact DataW.trod_lt m _ _ _ hm
 obtain ⟨fuel3, hf3⟩ := h3
 obtain ⟨ao3, ca3, t3, hc3, hr3⟩ := open_S hf3
 simp only [Value.cells, List.cons.injEq, Value.slice.injEq, and_true] at hc3
 obtain ⟨rfl, rfl, rfl⟩ := hc3
 clear hA0 hval0
 simp only [List.append_nil] at hW'
 refine (walk a0 b1 cap1 t1 b2 cap2 t2 b3 cap3 t3 W hr1 hr2 hr3).mono fun e W2 ⟨v, G2, he, hG, hh, hv⟩ => ?_
 subst he; subst hv
 have bel : Below W.heap.size W W2 := Holds.below hG hh
 exact ⟨_, rfl, _, _, _, [], _, [], hW', trodAll_mk1 (shut_bool Try.underlying4 _), (trodAll_cons_mk (shut_int Try.underlying3 w0) (trodAll_cons_mk (Below.trod laidOut (by kernel_rfl) (of_decide_eq_true (by kernel_rfl)) j1 bel lt1) (trodAll_cons_mk (Below.trod laidOut (by kernel_rfl) (of_decide_eq_true (by kernel_rfl)) j2 bel lt2) (trodAll_cons_mk (Below.trod laidOut (by kernel_rfl) (of_decide_eq_true (by kernel_rfl)) j3 bel lt3) trodAll_mk0)))), rfl, bel.frame _, fun h => by cases h⟩
theorem over : Rows.rollKeepsRow.holds Try.pinned (OpenSpec.ofChange Rows.rollKeepsSpec) :=
 OpenClaim.holds_of_wide 6 Try.f6 rfl rfl rfl rfl rfl rfl rfl ⟨rfl, rfl, rfl, rfl, rfl⟩ rfl rfl rfl rfl rfl (by kernel_rfl) Try.func6 (by kernel_rfl)
  (of_decide_eq_true (by kernel_rfl)) (by unfold Func.isWrapper; first | (rw [if_pos (by decide +kernel)]; kernel_rfl) | (rw [if_neg (by decide +kernel)]; exact ⟨rfl, rfl⟩))
  (fun os started H enc _ => lifted os started H enc)
theorem holds : Rows.RollKeepsSaid := over
#print axioms holds
end Go.Proofs.Ytkahniffcehicaa.rollKeeps