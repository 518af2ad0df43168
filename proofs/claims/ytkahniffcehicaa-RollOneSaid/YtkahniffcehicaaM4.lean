/- Definitions and lemmas of the proof, without a condition of their own. -/
import Derived.Test.YtkahniffcehicaaM3
import Derived.KernelRfl
namespace Go.Proofs.Try
open Go Go.RowKit Go.Sy
open Go.Eng hiding allB
set_option maxRecDepth 1000000
set_option linter.unusedVariables false
set_option maxHeartbeats 4000000
theorem tmb (k : Int) (hk : 0 < k) (z : Int) : -k < z.tmod k ∧ z.tmod k < k := ⟨by have := Int.lt_tmod_of_pos z hk ; omega, Int.tmod_lt_of_pos z hk⟩
theorem tmp (k : Int) (hk : 0 < k) (z : Int) (h : 0 ≤ z) : 0 ≤ z.tmod k ∧ z.tmod k < k := ⟨Int.tmod_nonneg k h, Int.tmod_lt_of_pos z hk⟩
theorem tmk (k z : Int) : 0 < k → -k < z.tmod k ∧ z.tmod k < k := fun hk => tmb k hk z
theorem tmk2 (k z : Int) : 0 < k → 0 ≤ (z.tmod k + k).tmod k ∧ (z.tmod k + k).tmod k < k := fun hk => tmp k hk _ (by have := tmb k hk z ; omega)
theorem MsgOk.flat {hd : Rl} {tl : List Rl} {t : Told} (h : MsgOk hd tl t) (hs : hd.l.length ≤ 400) : 0 ≤ t.to ∧ t.to < ((tl.length + 1 : Nat) : Int) ∧ (t.to = 0 → 0 ≤ t.c ∧ t.c < ((tl.length + 1 : Nat) : Int)) ∧ (¬ t.to = 0 → 0 ≤ t.fr ∧ t.fr + (t.l.length : Int) ≤ 400) := by
  refine ⟨h.lo, h.hi, fun e => ?_, fun e => ?_⟩
  · obtain ⟨j, r, h1, h2, _⟩ := h.back e
    have := (List.getElem?_eq_some_iff.1 h2).1
    simp only [List.length_cons] at this
    omega
  · have := h.out e; omega
theorem sub_cut {α : Type} {l : List α} {a b c d : Nat} : ∀ t, t ∈ (l.drop a).take b ++ (l.drop c).take d → t ∈ l := fun t h => (List.mem_append.1 h).elim (fun h => List.mem_of_mem_drop (List.mem_of_mem_take h)) (fun h => List.mem_of_mem_drop (List.mem_of_mem_take h))
theorem sub_one {α : Type} {l : List α} {a b : Nat} : ∀ t, t ∈ (l.drop a).take b → t ∈ l := fun t h => List.mem_of_mem_drop (List.mem_of_mem_take h)
theorem frz_shut {l : List Int} {com : Int} {sh p : Prop} {tl : List Rl} (h : p) : Frz (⟨l, com, sh⟩ :: tl) (⟨l, com, p⟩ :: tl) := by
  refine ⟨rfl, fun j r r' h1 h2 h3 => ?_⟩
  cases j with
  | zero => simp only [List.getElem?_cons_zero, Option.some.injEq] at h1 h2; subst h1; subst h2; exact ⟨h, rfl⟩
  | succ j => simp only [List.getElem?_cons_succ] at h1 h2; rw [h1] at h2; cases h2; exact ⟨h3, rfl⟩
def ft_come1 : XF := .mk 34 .none (.seq (g_ 1 [e_ 0 3 (.box 100 (.t 1))]) (.seq (.seq (g_ 3 [p_ 0 4 (f_ 0 3), r_ 1 5 (l_ 4), p_ 2 6 (.bin 3 4 (.t 5) (i_ 0))]) (.cond (.t 6) (.seq (h_ 12 [p_ 0 7 (m_ 0), p_ 1 8 (n_ 7), p_ 2 9 (f_ 0 8), r_ 3 10 (l_ 9), p_ 4 11 (.ixs 1 (.t 10) (i_ 0)), r_ 5 12 (l_ 11), p_ 6 13 (f_ 2 3), r_ 7 14 (l_ 13), p_ 9 16 (f_ 1 3), r_ 10 17 (l_ 16), c_ 8 15 9 [.t 14], a_ 3 10 (l_ 9), a_ 5 12 (l_ 11), a_ 10 17 (l_ 16), c_ 11 18 19 [.t 12, .t 15, .t 17]]) .ret) .skip)) (h_ 15 [p_ 0 19 (m_ 0), p_ 1 20 (n_ 19), p_ 2 21 (f_ 0 20), r_ 3 22 (l_ 21), p_ 4 23 (f_ 0 3), r_ 5 24 (l_ 23), p_ 6 25 (.ixs 1 (.t 22) (.t 24)), r_ 7 26 (l_ 25), p_ 8 27 (f_ 1 3), r_ 9 28 (l_ 27), p_ 10 29 (f_ 3 3), r_ 11 30 (l_ 29), p_ 12 31 (f_ 2 3), r_ 13 32 (l_ 31), c_ 14 33 13 [.t 26, .t 28, .t 30, .t 32]])))
theorem ft_come1_ok : chkF Try.prog 41 ft_come1 = true := by kernel_rfl
structure A_come1 where
  f : F1
  t : Told
structure R_come1 where
  f : F1
def po_come1 (p : A_come1) (r : R_come1) : Prop := (FI1 r.f ∧ Fr1 p.f r.f) ∧ r.f.cnt = p.f.cnt
noncomputable def I_come1 (p : A_come1) : IE := ([.ptr 0 0, .agg [.sy (.int 0 p.t.to), .sy (.int 0 p.t.fr), .sy (.int 0 p.t.c), .sy (.imm p.t.h 18 Int p.t.l encK)]], (Fd1n p.f), 7)
noncomputable def out_come1 (p : A_come1) (K : KE) : Bool := allB fun r : R_come1 => ifB (prB (po_come1 p r)) (K (.tup []) (Fd1n r.f) 7) true
def pre_come1 (p : A_come1) : Prop := FI1 p.f ∧ MsgOk p.f.s0 [] p.t
theorem fin_come1 {p : A_come1} {K : KE} (hK : out_come1 p K = true) (r : R_come1) (h : po_come1 p r) : K (.tup []) (Fd1n r.f) 7 = true := ifB_use h (allB_ok hK r)
theorem vf_come1 (p : A_come1) (K : KE) (hpre : pre_come1 p) (hK : out_come1 p K = true) : (funE 1 (cfT nat_right5) noLp 600 ft_come1 (I_come1 p).1 (I_come1 p).2.1 (I_come1 p).2.2 K) = true := by
  refine Eq.trans (b := (ifB (prB (p.t.to = (0 : Int))) (must (prB (InR 1 p.t.c)) (must (prB (((.int 0 p.t.fr) : SY) = (.int 0 p.t.fr))) (exB fun p1 : A_ack1 => must (prB (([.ptr 0 0, .agg [.sy (.int 1 p.t.c), .int 2 (.ofNat 1)], .sy (.int 0 p.t.fr)], (Ro1n p.f.s0.l p.f.s0.com p.f.s0.sh p.f.c0), 4) = I_ack1 p1)) (must (prB (pre_ack1 p1)) (allB fun r1 : R_ack1 => ifB (prB (po_ack1 p1 r1)) (K (.tup []) (Fd1n ⟨⟨p1.l, r1.com, p1.sh⟩, r1.c0, p.f.fly, p.f.cnt⟩) 7) true))))) (ifB (prB (p.t.to = 0)) (false) (must (prB (False)) (true))))) (by kernel_rfl) ?_
  dsimp only [pre_come1] at hpre
  obtain ⟨hinv, hm⟩ := hpre
  have hinv : FInv p.f.s0 _ _ p.f.fly := hinv
  have hs : p.f.s0.l.length ≤ 400 := hinv.short
  have hfew : p.f.fly.length ≤ 100 := hinv.few
  have f0 : p.f.c0 ≤ (p.f.s0.l.length : Int) ∧ 0 ≤ p.f.c0 ∧ p.f.s0.l.length ≤ p.f.s0.l.length := ⟨(hinv.each 0 _ _ rfl rfl).cl, (hinv.each 0 _ _ rfl rfl).c0, (hinv.each 0 _ _ rfl rfl).len⟩
  have hm2 := hm.flat hs
  simp only [List.length_cons, List.length_nil, List.length_singleton] at hm2
  refine ifP (fun hc1 => ?_) (fun hc1 => ?_)
  refine mustP (by simp only [InR] ; omega) ?_
  refine mustP (rfl) ?_
  refine callPR (⟨p.f.s0.l, p.f.s0.com, p.f.s0.sh, p.f.c0, p.t.c, p.t.fr⟩ : A_ack1) rfl (by (try dsimp only [pre_ack1]) ; omega) fun r1 hi2 => ?_
  dsimp only [po_ack1] at hi2
  exact fin_come1 hK ⟨⟨⟨p.f.s0.l, r1.com, p.f.s0.sh⟩, r1.c0, p.f.fly, p.f.cnt⟩⟩ (by dsimp only [po_come1] <;> (first | (exfalso ; omega) | exact ⟨tr_ack (maj := 1) (m := 1) hinv (by simp) (by simp) hm (by assumption) (by assumption), rfl⟩))
  refine ifP (fun hc3 => ?_) (fun hc3 => ?_)
  exfalso ; omega
  refine mustP (by omega) ?_
  rfl
noncomputable def ec_come1 : SpecE := tstE (elB 1 1) (esOf I_come1 (spP pre_come1 out_come1)) (fun _ _ _ _ => false)
theorem nc_come1 : NatE Try.prog 41 1 ec_come1 := tstE_ok (natE_pl (f := 41) (k := 1) (cfT_ok nat_right5_ok) ft_come1_ok (by rfl) (by rfl) vf_come1) natE_no
noncomputable def nat_come1 := natC nat_right5 1 ec_come1 41 [(0, 4), (1, 15)]
theorem nat_come1_ok : NatsOk Try.prog nat_come1 := natC_ok nc_come1 nat_right5_ok
def ft_step1 : XF := .mk 203 .none (.seq (g_ 1 [e_ 0 3 (.box 74 (.t 1))]) (.seq (h_ 21 [p_ 0 10 (f_ 1 3), r_ 1 11 (l_ 10), p_ 2 12 (m_ 0), p_ 3 13 (n_ 12), p_ 4 14 (f_ 0 13), r_ 5 15 (l_ 14), p_ 6 16 (k_ 15), p_ 7 17 (.bin 0 4 (.t 11) (.t 16)), p_ 8 18 (m_ 0), p_ 9 19 (n_ 18), p_ 10 20 (f_ 0 19), r_ 11 21 (l_ 20), p_ 12 22 (k_ 21), p_ 13 23 (.bin 0 0 (.t 17) (.t 22)), p_ 14 24 (m_ 0), p_ 15 25 (n_ 24), p_ 16 26 (f_ 0 25), r_ 17 27 (l_ 26), p_ 18 28 (k_ 27), p_ 19 29 (.bin 0 4 (.t 23) (.t 28)), p_ 20 4 (m_ 29)]) (.seq (g_ 6 [p_ 0 30 (m_ 0), p_ 1 31 (n_ 30), p_ 2 32 (f_ 1 31), r_ 3 33 (l_ 32), p_ 4 34 (k_ 33), p_ 5 5 (m_ 34)]) (.block 2 (.seq (g_ 4 [p_ 0 36 (f_ 0 3), r_ 1 37 (l_ 36), p_ 2 38 (.bin 3 4 (.t 37) (i_ 0)), p_ 3 35 (m_ 38)]) (.cond (.t 35) (.seq (g_ 8 [p_ 0 39 (m_ 0), p_ 1 40 (n_ 39), p_ 2 41 (f_ 2 40), r_ 3 42 (l_ 41), p_ 4 43 (.bin 0 0 (.t 42) (i_ 1)), p_ 5 44 (n_ 39), p_ 6 45 (f_ 2 44), e0_ 7 (.st 1 (.t 45) (.t 43))]) (h_ 13 [p_ 0 46 (m_ 0), p_ 1 47 (n_ 46), p_ 2 48 (f_ 0 47), r_ 3 49 (l_ 48), p_ 4 50 (.ixs 1 (.t 49) (i_ 0)), r_ 5 51 (l_ 50), p_ 6 52 (m_ 0), p_ 7 53 (n_ 52), p_ 8 54 (f_ 2 53), r_ 9 55 (l_ 54), p_ 10 56 (.bin 0 4 (.t 55) (i_ 16)), c_ 11 57 11 [.t 56], a_ 3 49 (l_ 48), a_ 5 51 (l_ 50), c_ 12 58 10 [.t 51, .t 57]])) (.seq (g_ 12 [p_ 0 60 (f_ 0 3), r_ 1 61 (l_ 60), p_ 2 62 (.bin 3 4 (.t 61) (i_ 1)), p_ 3 63 (m_ 62), pg_ 4 64 63 true (m_ 4), pg_ 5 65 63 true (.bin 3 2 (.t 64) (i_ 0)), p_ 6 66 (.pick (.t 63) (.t 65) (.c (.bool false))), p_ 7 67 (m_ 66), pg_ 8 68 67 true (m_ 5), pg_ 9 69 67 true (.bin 3 0 (.t 68) (i_ 100)), p_ 10 70 (.pick (.t 67) (.t 69) (.c (.bool false))), p_ 11 59 (m_ 70)]) (.cond (.t 59) (.seq (h_ 20 [p_ 0 72 (m_ 0), p_ 1 73 (n_ 72), p_ 2 74 (f_ 0 73), r_ 3 75 (l_ 74), p_ 4 76 (.ixs 1 (.t 75) (i_ 0)), r_ 5 77 (l_ 76), p_ 6 78 (m_ 4), p_ 8 80 (f_ 2 3), r_ 9 81 (l_ 80), p_ 10 82 (.bin 0 4 (.t 81) (i_ 3)), p_ 11 83 (.bin 0 0 (.t 82) (i_ 3)), p_ 12 84 (.bin 0 4 (.t 83) (i_ 3)), p_ 13 85 (.bin 0 0 (i_ 1) (.t 84)), c_ 7 79 9 [.t 78], a_ 3 75 (l_ 74), a_ 5 77 (l_ 76), a_ 9 81 (l_ 80), c_ 14 86 21 [.t 77, .t 79, .t 85], p_ 15 71 (m_ 86), p_ 16 87 (.ext 0 (.t 71)), p_ 17 88 (.ext 1 (.t 71)), p_ 18 6 (m_ 87), p_ 19 7 (m_ 88)]) (h_ 21 [p_ 0 89 (m_ 0), p_ 1 90 (m_ 0), p_ 2 91 (n_ 90), p_ 3 92 (f_ 1 91), r_ 4 93 (l_ 92), p_ 5 94 (m_ 4), p_ 6 95 (m_ 6), p_ 7 96 (m_ 0), p_ 8 97 (n_ 96), p_ 9 98 (f_ 0 97), r_ 10 99 (l_ 98), p_ 11 100 (.ixs 1 (.t 99) (i_ 0)), r_ 12 101 (l_ 100), p_ 14 103 (m_ 7), c_ 13 102 14 [.t 101], a_ 4 93 (l_ 92), p_ 15 104 (.bld [.int 0 (.ofNat 0), .int 0 (.ofNat 0), .int 0 (.ofNat 0), .nilS] [(0, 1), (1, 1), (2, 1), (3, 1)] [.t 94, .t 95, .t 102, .t 103]), e_ 16 105 (.bsl 100 4 1 [.int 0 (.ofNat 0), .int 0 (.ofNat 0), .int 0 (.ofNat 0), .nilS] [(0, 4)] [.t 104]), a_ 4 93 (l_ 92), e_ 17 106 (.app 100 4 48 (.t 93) (.t 105)), p_ 18 107 (n_ 89), p_ 19 108 (f_ 1 107), e0_ 20 (.st 1 (.t 108) (.t 106))])) (.seq (g_ 12 [p_ 0 110 (f_ 0 3), r_ 1 111 (l_ 110), p_ 2 112 (.bin 3 4 (.t 111) (i_ 2)), p_ 3 113 (m_ 112), pg_ 4 114 113 true (m_ 4), pg_ 5 115 113 true (.bin 3 2 (.t 114) (i_ 0)), p_ 6 116 (.pick (.t 113) (.t 115) (.c (.bool false))), p_ 7 117 (m_ 116), pg_ 8 118 117 true (m_ 5), pg_ 9 119 117 true (.bin 3 0 (.t 118) (i_ 100)), p_ 10 120 (.pick (.t 117) (.t 119) (.c (.bool false))), p_ 11 109 (m_ 120)]) (.cond (.t 109) (h_ 20 [p_ 0 121 (m_ 0), p_ 1 122 (m_ 0), p_ 2 123 (n_ 122), p_ 3 124 (f_ 1 123), r_ 4 125 (l_ 124), p_ 5 126 (m_ 0), p_ 6 127 (n_ 126), p_ 7 128 (f_ 0 127), r_ 8 129 (l_ 128), p_ 9 130 (m_ 4), p_ 10 131 (.ixs 1 (.t 129) (.t 130)), r_ 11 132 (l_ 131), p_ 13 134 (m_ 4), c_ 12 133 15 [.t 132], a_ 4 125 (l_ 124), p_ 14 135 (.bld [.int 0 (.ofNat 0), .int 0 (.ofNat 0), .int 0 (.ofNat 0), .nilS] [(0, 1), (1, 1), (2, 1), (3, 1)] [i_ 0, .t 133, .t 134, .c .nilS]), e_ 15 136 (.bsl 100 4 1 [.int 0 (.ofNat 0), .int 0 (.ofNat 0), .int 0 (.ofNat 0), .nilS] [(0, 4)] [.t 135]), a_ 4 125 (l_ 124), e_ 16 137 (.app 100 4 48 (.t 125) (.t 136)), p_ 17 138 (n_ 121), p_ 18 139 (f_ 1 138), e0_ 19 (.st 1 (.t 139) (.t 137))]) (.pre [.can 1 [0, 3, 4, 5]] (.spc 0 (.aft (.seq (g_ 4 [p_ 0 141 (f_ 0 3), r_ 1 142 (l_ 141), p_ 2 143 (.bin 3 4 (.t 142) (i_ 7)), p_ 3 140 (m_ 143)]) (.cond (.t 140) (g_ 8 [p_ 0 144 (m_ 0), p_ 1 145 (n_ 144), p_ 2 146 (f_ 0 145), r_ 3 147 (l_ 146), p_ 4 148 (m_ 4), p_ 5 149 (.ixs 1 (.t 147) (.t 148)), r_ 6 150 (l_ 149), c_ 7 151 18 [.t 150]]) (.seq (g_ 8 [p_ 0 153 (f_ 0 3), r_ 1 154 (l_ 153), p_ 2 155 (.bin 3 3 (.t 154) (i_ 3)), p_ 3 156 (m_ 155), pg_ 4 157 156 true (m_ 5), pg_ 5 158 156 true (.bin 3 2 (.t 157) (i_ 0)), p_ 6 159 (.pick (.t 156) (.t 158) (.c (.bool false))), p_ 7 152 (m_ 159)]) (.cond (.t 152) (.seq (g_ 9 [p_ 0 160 (f_ 3 3), r_ 1 161 (l_ 160), p_ 2 162 (m_ 5), p_ 3 163 (.bin 0 4 (.t 161) (.t 162)), p_ 4 164 (m_ 5), p_ 5 165 (.bin 0 0 (.t 163) (.t 164)), p_ 6 166 (m_ 5), p_ 7 167 (.bin 0 4 (.t 165) (.t 166)), p_ 8 8 (m_ 167)]) (.seq (g_ 9 [p_ 0 168 (m_ 0), p_ 1 169 (n_ 168), p_ 2 170 (f_ 1 169), r_ 3 171 (l_ 170), p_ 4 172 (m_ 8), p_ 5 173 (.ixs 4 (.t 171) (.t 172)), r_ 6 174 (.ld true 4 (.t 173)), e_ 7 9 (.al 100 [.int 0 (.ofNat 0), .int 0 (.ofNat 0), .int 0 (.ofNat 0), .nilS]), e0_ 8 (.st 4 (.t 9) (.t 174))]) (.seq (.seq (g_ 3 [p_ 0 175 (f_ 0 3), r_ 1 176 (l_ 175), p_ 2 177 (.bin 3 5 (.t 176) (i_ 5))]) (.cond (.t 177) (.aft (h_ 20 [p_ 0 178 (m_ 0), p_ 2 180 (m_ 0), p_ 3 181 (n_ 180), p_ 4 182 (f_ 1 181), r_ 5 183 (l_ 182), p_ 6 184 (m_ 8), r_ 7 185 (.sls 4 (.t 183) none (some (.t 184)) none), p_ 9 187 (m_ 0), p_ 10 188 (n_ 187), p_ 11 189 (f_ 1 188), r_ 12 190 (l_ 189), p_ 13 191 (m_ 8), p_ 14 192 (.bin 0 0 (.t 191) (i_ 1)), r_ 15 193 (.sls 4 (.t 190) (some (.t 192)) none none), e_ 1 179 (.bsl 100 4 0 [] [] []), a_ 5 183 (l_ 182), a_ 7 185 (.sls 4 (.t 183) none (some (.t 184)) none), a_ 12 190 (l_ 189), a_ 15 193 (.sls 4 (.t 190) (some (.t 192)) none none), e_ 8 186 (.app 100 4 48 (.t 179) (.t 185)), a_ 12 190 (l_ 189), a_ 15 193 (.sls 4 (.t 190) (some (.t 192)) none none), e_ 16 194 (.app 100 4 48 (.t 186) (.t 193)), p_ 17 195 (n_ 178), p_ 18 196 (f_ 1 195), e0_ 19 (.st 1 (.t 196) (.t 194))]) [(0, [.cell 0 0 1 100 4 Told encT])]) .skip)) (.seq (g_ 3 [p_ 0 197 (f_ 0 3), r_ 1 198 (l_ 197), p_ 2 199 (.bin 3 5 (.t 198) (i_ 6))]) (.cond (.t 199) (g_ 3 [p_ 0 200 (m_ 0), r_ 1 201 (.ld true 4 (.t 9)), c_ 2 202 41 [.t 200, .t 201]]) .skip))))) .skip)))) [(0, [.can 1 [], .upc 3 0 8, .upc 4 0 8, .upc 5 0 8, .upc 6 0 8, .upc 7 0 8, .can 1 []])])))))))))))))
theorem ft_step1_ok : chkF Try.prog 28 ft_step1 = true := by kernel_rfl
structure A_rest1 where
  f : F1
  k : Int
  x : Int
  nn : Int
  i : Int
  y : Int
  kk : Int
structure R_rest1 where
  f : F1
def po_rest1 (p : A_rest1) (r : R_rest1) : Prop := (FI1 r.f ∧ Fr1 p.f r.f) ∧ r.f.cnt = p.f.cnt
noncomputable def I_rest1 (p : A_rest1) : IL := ((.cons 5 (.sy (.int 0 p.kk)) (.cons 4 (.sy (.int 0 p.y)) (.cons 3 (.ptr 1 0) (.cons 0 (.ptr 0 0) .nil)))), (Fb1n p.f p.k p.x p.nn p.i), 8)
noncomputable def out_rest1 (p : A_rest1) (K : KC) : Bool := allB fun r : R_rest1 => ifB (prB (po_rest1 p r)) (K 0 .nil (Fd1n r.f) 7) true
def pre_rest1 (p : A_rest1) : Prop := FI1 p.f ∧ 0 ≤ p.f.cnt ∧ p.f.cnt ≤ 1000000 ∧ 0 ≤ p.y ∧ p.y < 1 ∧ p.kk = (p.f.fly.length : Int)
theorem fin_rest1 {p : A_rest1} {K : KC} (hK : out_rest1 p K = true) (r : R_rest1) (h : po_rest1 p r) : K 0 .nil (Fd1n r.f) 7 = true := ifB_use h (allB_ok hK r)
noncomputable def sp_rest1 (p : A_rest1) (K : KC) : Bool := must (prB (pre_rest1 p)) (out_rest1 p K)
noncomputable def lp_step1 : LpF := fun j S M nx K => (Bool.rec (false) (exB fun p : A_rest1 => must (prB ((S, M, nx) = I_rest1 p)) (sp_rest1 p K)) (Nat.beq j 0))
def bd_rest1 : XC := (.aft (.seq (g_ 4 [p_ 0 141 (f_ 0 3), r_ 1 142 (l_ 141), p_ 2 143 (.bin 3 4 (.t 142) (i_ 7)), p_ 3 140 (m_ 143)]) (.cond (.t 140) (g_ 8 [p_ 0 144 (m_ 0), p_ 1 145 (n_ 144), p_ 2 146 (f_ 0 145), r_ 3 147 (l_ 146), p_ 4 148 (m_ 4), p_ 5 149 (.ixs 1 (.t 147) (.t 148)), r_ 6 150 (l_ 149), c_ 7 151 18 [.t 150]]) (.seq (g_ 8 [p_ 0 153 (f_ 0 3), r_ 1 154 (l_ 153), p_ 2 155 (.bin 3 3 (.t 154) (i_ 3)), p_ 3 156 (m_ 155), pg_ 4 157 156 true (m_ 5), pg_ 5 158 156 true (.bin 3 2 (.t 157) (i_ 0)), p_ 6 159 (.pick (.t 156) (.t 158) (.c (.bool false))), p_ 7 152 (m_ 159)]) (.cond (.t 152) (.seq (g_ 9 [p_ 0 160 (f_ 3 3), r_ 1 161 (l_ 160), p_ 2 162 (m_ 5), p_ 3 163 (.bin 0 4 (.t 161) (.t 162)), p_ 4 164 (m_ 5), p_ 5 165 (.bin 0 0 (.t 163) (.t 164)), p_ 6 166 (m_ 5), p_ 7 167 (.bin 0 4 (.t 165) (.t 166)), p_ 8 8 (m_ 167)]) (.seq (g_ 9 [p_ 0 168 (m_ 0), p_ 1 169 (n_ 168), p_ 2 170 (f_ 1 169), r_ 3 171 (l_ 170), p_ 4 172 (m_ 8), p_ 5 173 (.ixs 4 (.t 171) (.t 172)), r_ 6 174 (.ld true 4 (.t 173)), e_ 7 9 (.al 100 [.int 0 (.ofNat 0), .int 0 (.ofNat 0), .int 0 (.ofNat 0), .nilS]), e0_ 8 (.st 4 (.t 9) (.t 174))]) (.seq (.seq (g_ 3 [p_ 0 175 (f_ 0 3), r_ 1 176 (l_ 175), p_ 2 177 (.bin 3 5 (.t 176) (i_ 5))]) (.cond (.t 177) (.aft (h_ 20 [p_ 0 178 (m_ 0), p_ 2 180 (m_ 0), p_ 3 181 (n_ 180), p_ 4 182 (f_ 1 181), r_ 5 183 (l_ 182), p_ 6 184 (m_ 8), r_ 7 185 (.sls 4 (.t 183) none (some (.t 184)) none), p_ 9 187 (m_ 0), p_ 10 188 (n_ 187), p_ 11 189 (f_ 1 188), r_ 12 190 (l_ 189), p_ 13 191 (m_ 8), p_ 14 192 (.bin 0 0 (.t 191) (i_ 1)), r_ 15 193 (.sls 4 (.t 190) (some (.t 192)) none none), e_ 1 179 (.bsl 100 4 0 [] [] []), a_ 5 183 (l_ 182), a_ 7 185 (.sls 4 (.t 183) none (some (.t 184)) none), a_ 12 190 (l_ 189), a_ 15 193 (.sls 4 (.t 190) (some (.t 192)) none none), e_ 8 186 (.app 100 4 48 (.t 179) (.t 185)), a_ 12 190 (l_ 189), a_ 15 193 (.sls 4 (.t 190) (some (.t 192)) none none), e_ 16 194 (.app 100 4 48 (.t 186) (.t 193)), p_ 17 195 (n_ 178), p_ 18 196 (f_ 1 195), e0_ 19 (.st 1 (.t 196) (.t 194))]) [(0, [.cell 0 0 1 100 4 Told encT])]) .skip)) (.seq (g_ 3 [p_ 0 197 (f_ 0 3), r_ 1 198 (l_ 197), p_ 2 199 (.bin 3 5 (.t 198) (i_ 6))]) (.cond (.t 199) (g_ 3 [p_ 0 200 (m_ 0), r_ 1 201 (.ld true 4 (.t 9)), c_ 2 202 41 [.t 200, .t 201]]) .skip))))) .skip)))) [(0, [.can 1 [], .upc 3 0 8, .upc 4 0 8, .upc 5 0 8, .upc 6 0 8, .upc 7 0 8, .can 1 []])])
theorem vb_rest1 (p : A_rest1) (K : KC) (hpre : pre_rest1 p) (hK : out_rest1 p K = true) : (codeX (cfT nat_come1) lp_step1 600 bd_rest1 (I_rest1 p).1 (I_rest1 p).2.1 (I_rest1 p).2.2 K) = true := by
  refine Eq.trans (b := (let y0 : Int := (Int.tmod ((Int.tmod p.i p.kk) + p.kk) p.kk); ifB (prB (p.k = (7 : Int))) (ifB (prB (p.y = 0)) (K 0 .nil (Fd1n ({ p.f with s0 := ({ p.f.s0 with sh := true = true } : Rl) } : F1)) 7) (must (prB (False)) (true))) (ifB (prB ((3 : Int) ≤ p.k)) (ifB (prB ((0 : Int) < p.kk)) (must (prB (p.kk ≠ 0)) (must (prB (InR 0 ((Int.tmod p.i p.kk) + p.kk))) (must (prB (p.kk ≠ 0)) (must (prB (0 ≤ y0 ∧ y0 < (p.f.fly.length : Int))) (must (prB ((y0.toNat) < p.f.fly.length)) (allB fun x1 : Told => ifB (prB (p.f.fly[y0.toNat]? = some x1)) (ifB (prB (¬ p.k = (5 : Int))) (must (prB (p.f.fly.length = p.f.fly.length ∧ 0 ≤ (0 : Int) ∧ (0 : Int) ≤ y0 ∧ y0 ≤ (p.f.fly.length : Int))) (must (prB (InR 0 (y0 + (1 : Int)))) (must (prB (p.f.fly.length = p.f.fly.length ∧ 0 ≤ (y0 + (1 : Int)) ∧ (y0 + (1 : Int)) ≤ (p.f.fly.length : Int) ∧ (p.f.fly.length : Int) ≤ (p.f.fly.length : Int))) (must (prB (((.prow 3 p.f.fly.length) : SY) = (.prow 3 p.f.fly.length))) (must (prB (p.f.fly.length = p.f.fly.length ∧ 0 ≤ (0 : Int) ∧ (0 : Int) ≤ y0 ∧ y0 ≤ (p.f.fly.length : Int))) (must (prB (((.psub 3 4 0 ((y0.toNat) - 0)) : SY) = (.psub 3 4 0 ((y0.toNat) - 0)))) (must (prB (((.prow 3 p.f.fly.length) : SY) = (.prow 3 p.f.fly.length))) (must (prB (p.f.fly.length = p.f.fly.length ∧ 0 ≤ (y0 + (1 : Int)) ∧ (y0 + (1 : Int)) ≤ (p.f.fly.length : Int) ∧ (p.f.fly.length : Int) ≤ (p.f.fly.length : Int))) (must (prB (((.psub 3 4 ((y0 + (1 : Int)).toNat) (p.f.fly.length - ((y0 + (1 : Int)).toNat))) : SY) = (.psub 3 4 ((y0 + (1 : Int)).toNat) (p.f.fly.length - ((y0 + (1 : Int)).toNat))))) (must (prB (0 + ((y0.toNat) - 0) ≤ p.f.fly.length)) (ifB (prB (((p.f.fly.drop 0).take ((y0.toNat) - 0)) = [])) (must (prB (((.prow 3 p.f.fly.length) : SY) = (.prow 3 p.f.fly.length))) (must (prB (p.f.fly.length = p.f.fly.length ∧ 0 ≤ (y0 + (1 : Int)) ∧ (y0 + (1 : Int)) ≤ (p.f.fly.length : Int) ∧ (p.f.fly.length : Int) ≤ (p.f.fly.length : Int))) (must (prB (((.psub 3 4 ((y0 + (1 : Int)).toNat) (p.f.fly.length - ((y0 + (1 : Int)).toNat))) : SY) = (.psub 3 4 ((y0 + (1 : Int)).toNat) (p.f.fly.length - ((y0 + (1 : Int)).toNat))))) (must (prB (((y0 + (1 : Int)).toNat) + (p.f.fly.length - ((y0 + (1 : Int)).toNat)) ≤ p.f.fly.length)) (ifB (prB (((p.f.fly.drop ((y0 + (1 : Int)).toNat)).take (p.f.fly.length - ((y0 + (1 : Int)).toNat))) = [])) (must (prB ((.sl 9 0 0 (.ex 0) : AV) = (.sl 9 0 0 (.ex 0) : AV))) (ifB (prB (¬ p.k = (6 : Int))) (exB fun p1 : A_come1 => must (prB (([.ptr 0 0, .agg [.sy (.int 0 x1.to), .sy (.int 0 x1.fr), .sy (.int 0 x1.c), .sy (.imm x1.h 18 Int x1.l encK)]], (Fd1 ({ p.f with fly := ([] : List Told) } : F1) 0 p.f.s0.l.length), 7) = I_come1 p1)) (must (prB (pre_come1 p1)) (allB fun r1 : R_come1 => ifB (prB (po_come1 p1 r1)) (K 0 .nil (Fd1n r1.f) 7) true))) (K 0 .nil (Fd1 ({ p.f with fly := ([] : List Told) } : F1) 0 p.f.s0.l.length) 7))) (must (prB (limP 48 ((p.f.fly.drop ((y0 + (1 : Int)).toNat)).take (p.f.fly.length - ((y0 + (1 : Int)).toNat))).length)) (ifB (prB (¬ p.k = (6 : Int))) (exB fun p2 : A_come1 => must (prB (([.ptr 0 0, .agg [.sy (.int 0 x1.to), .sy (.int 0 x1.fr), .sy (.int 0 x1.c), .sy (.imm x1.h 18 Int x1.l encK)]], (Fd1 ({ p.f with fly := (p.f.fly.drop ((y0 + (1 : Int)).toNat)).take (p.f.fly.length - ((y0 + (1 : Int)).toNat)) } : F1) (((p.f.fly.drop ((y0 + (1 : Int)).toNat)).take (p.f.fly.length - ((y0 + (1 : Int)).toNat))).length) p.f.s0.l.length), 7) = I_come1 p2)) (must (prB (pre_come1 p2)) (allB fun r2 : R_come1 => ifB (prB (po_come1 p2 r2)) (K 0 .nil (Fd1n r2.f) 7) true))) (K 0 .nil (Fd1 ({ p.f with fly := (p.f.fly.drop ((y0 + (1 : Int)).toNat)).take (p.f.fly.length - ((y0 + (1 : Int)).toNat)) } : F1) (((p.f.fly.drop ((y0 + (1 : Int)).toNat)).take (p.f.fly.length - ((y0 + (1 : Int)).toNat))).length) p.f.s0.l.length) 7)))))))) (must (prB (limP 48 ((p.f.fly.drop 0).take ((y0.toNat) - 0)).length)) (must (prB (((.prow 3 p.f.fly.length) : SY) = (.prow 3 p.f.fly.length))) (must (prB (p.f.fly.length = p.f.fly.length ∧ 0 ≤ (y0 + (1 : Int)) ∧ (y0 + (1 : Int)) ≤ (p.f.fly.length : Int) ∧ (p.f.fly.length : Int) ≤ (p.f.fly.length : Int))) (must (prB (((.psub 3 4 ((y0 + (1 : Int)).toNat) (p.f.fly.length - ((y0 + (1 : Int)).toNat))) : SY) = (.psub 3 4 ((y0 + (1 : Int)).toNat) (p.f.fly.length - ((y0 + (1 : Int)).toNat))))) (must (prB (((y0 + (1 : Int)).toNat) + (p.f.fly.length - ((y0 + (1 : Int)).toNat)) ≤ p.f.fly.length)) (must (prB ((((p.f.fly.drop 0).take ((y0.toNat) - 0)).length) = ((p.f.fly.drop 0).take ((y0.toNat) - 0)).length)) (ifB (prB (((p.f.fly.drop ((y0 + (1 : Int)).toNat)).take (p.f.fly.length - ((y0 + (1 : Int)).toNat))) = [])) (ifB (prB (¬ p.k = (6 : Int))) (exB fun p4 : A_come1 => must (prB (([.ptr 0 0, .agg [.sy (.int 0 x1.to), .sy (.int 0 x1.fr), .sy (.int 0 x1.c), .sy (.imm x1.h 18 Int x1.l encK)]], (Fd1 ({ p.f with fly := (p.f.fly.drop 0).take ((y0.toNat) - 0) } : F1) (((p.f.fly.drop 0).take ((y0.toNat) - 0)).length) p.f.s0.l.length), 7) = I_come1 p4)) (must (prB (pre_come1 p4)) (allB fun r4 : R_come1 => ifB (prB (po_come1 p4 r4)) (K 0 .nil (Fd1n r4.f) 7) true))) (K 0 .nil (Fd1 ({ p.f with fly := (p.f.fly.drop 0).take ((y0.toNat) - 0) } : F1) (((p.f.fly.drop 0).take ((y0.toNat) - 0)).length) p.f.s0.l.length) 7)) (exB fun m1 : List Told => must (prB (rowsR (m1.map encT) (((p.f.fly.drop ((y0 + (1 : Int)).toNat)).take (p.f.fly.length - ((y0 + (1 : Int)).toNat))).map encT))) (must (prB (limP 48 (((p.f.fly.drop 0).take ((y0.toNat) - 0)).length + m1.length))) (ifB (prB (¬ p.k = (6 : Int))) (exB fun p3 : A_come1 => must (prB (([.ptr 0 0, .agg [.sy (.int 0 x1.to), .sy (.int 0 x1.fr), .sy (.int 0 x1.c), .sy (.imm x1.h 18 Int x1.l encK)]], (Fd1 ({ p.f with fly := ((p.f.fly.drop 0).take ((y0.toNat) - 0)) ++ m1 } : F1) ((((p.f.fly.drop 0).take ((y0.toNat) - 0)) ++ m1).length) p.f.s0.l.length), 7) = I_come1 p3)) (must (prB (pre_come1 p3)) (allB fun r3 : R_come1 => ifB (prB (po_come1 p3 r3)) (K 0 .nil (Fd1n r3.f) 7) true))) (K 0 .nil (Fd1 ({ p.f with fly := ((p.f.fly.drop 0).take ((y0.toNat) - 0)) ++ m1 } : F1) ((((p.f.fly.drop 0).take ((y0.toNat) - 0)) ++ m1).length) p.f.s0.l.length) 7)))))))))))))))))))))) (ifB (prB (¬ p.k = (6 : Int))) (exB fun p5 : A_come1 => must (prB (([.ptr 0 0, .agg [.sy (.int 0 x1.to), .sy (.int 0 x1.fr), .sy (.int 0 x1.c), .sy (.imm x1.h 18 Int x1.l encK)]], (Fd1n p.f), 7) = I_come1 p5)) (must (prB (pre_come1 p5)) (allB fun r5 : R_come1 => ifB (prB (po_come1 p5 r5)) (K 0 .nil (Fd1n r5.f) 7) true))) (K 0 .nil (Fd1n p.f) 7))) true)))))) (K 0 .nil (Fd1n p.f) 7)) (K 0 .nil (Fd1n p.f) 7)))) (by kernel_rfl) ?_
  dsimp only [pre_rest1] at hpre
  obtain ⟨hinv, k1, k2, k3, k4, k5⟩ := hpre
  have hinv : FInv p.f.s0 _ _ p.f.fly := hinv
  have hs : p.f.s0.l.length ≤ 400 := hinv.short
  have hfew : p.f.fly.length ≤ 100 := hinv.few
  have f0 : p.f.c0 ≤ (p.f.s0.l.length : Int) ∧ 0 ≤ p.f.c0 ∧ p.f.s0.l.length ≤ p.f.s0.l.length := ⟨(hinv.each 0 _ _ rfl rfl).cl, (hinv.each 0 _ _ rfl rfl).c0, (hinv.each 0 _ _ rfl rfl).len⟩
  have t6 := tmk p.kk p.i
  have t7 := tmk2 p.kk p.i
  refine ifP (fun hc1 => ?_) (fun hc1 => ?_)
  refine ifP (fun hc2 => ?_) (fun hc2 => ?_)
  exact fin_rest1 hK ⟨({ p.f with s0 := ({ p.f.s0 with sh := true = true } : Rl) } : F1)⟩ (by dsimp only [po_rest1] <;> (first | (exfalso ; omega) | exact ⟨by exact ⟨tr_shut hinv _, frz_shut rfl⟩, by first | rfl | exact hi0.2⟩))
  refine mustP (by omega) ?_
  rfl
  refine ifP (fun hc3 => ?_) (fun hc3 => ?_)
  refine ifP (fun hc4 => ?_) (fun hc4 => ?_)
  refine mustP (by omega) ?_
  refine mustP (by simp only [InR] ; omega) ?_
  refine mustP (by omega) ?_
  refine mustP (by first | omega | (constructor <;> omega)) ?_
  refine mustP (by omega) ?_
  refine allB_mk (fun x1 => ?_)
  refine ifP (fun hi5 => ?_) (fun _ => rfl)
  have hm := hinv.msgs x1 (List.mem_of_getElem? (by assumption))
  refine ifP (fun hc6 => ?_) (fun hc6 => ?_)
  refine mustP (by first | omega | (simp ; omega)) ?_
  refine mustP (by simp only [InR] ; omega) ?_
  refine mustP (by first | omega | (simp ; omega)) ?_
  refine mustP (rfl) ?_
  refine mustP (by first | omega | (simp ; omega)) ?_
  refine mustP (rfl) ?_
  refine mustP (rfl) ?_
  refine mustP (by first | omega | (simp ; omega)) ?_
  refine mustP (rfl) ?_
  refine mustP (by (first | omega | (simp [limP] <;> omega))) ?_
  refine ifP (fun hc7 => ?_) (fun hc7 => ?_)
  have hc7l : (((p.f.fly.drop 0).take (((Int.tmod ((Int.tmod p.i p.kk) + p.kk) p.kk).toNat) - 0))).length = 0 := (by rw [hc7] ; rfl)
  refine mustP (rfl) ?_
  refine mustP (by first | omega | (simp ; omega)) ?_
  refine mustP (rfl) ?_
  refine mustP (by (first | omega | (simp [limP] <;> omega))) ?_
  refine ifP (fun hc8 => ?_) (fun hc8 => ?_)
  have hc8l : (((p.f.fly.drop (((Int.tmod ((Int.tmod p.i p.kk) + p.kk) p.kk) + (1 : Int)).toNat)).take (p.f.fly.length - (((Int.tmod ((Int.tmod p.i p.kk) + p.kk) p.kk) + (1 : Int)).toNat)))).length = 0 := (by rw [hc8] ; rfl)
  refine mustP (rfl) ?_
  refine ifP (fun hc9 => ?_) (fun hc9 => ?_)
  refine callPR (⟨({ p.f with fly := ([] : List Told) } : F1), ⟨x1.to, x1.fr, x1.c, x1.h, x1.l⟩⟩ : A_come1) rfl (by (try dsimp only [pre_come1]) ; exact ⟨(hinv.sub (fun _ h => by simp at h) (by simp)), hm⟩) fun r1 hi10 => ?_
  dsimp only [po_come1] at hi10
  exact fin_rest1 hK ⟨r1.f⟩ (by dsimp only [po_rest1] <;> (first | (exfalso ; omega) | exact ⟨by exact hi10.1, by first | rfl | exact hi10.2⟩))
  exact fin_rest1 hK ⟨({ p.f with fly := ([] : List Told) } : F1)⟩ (by dsimp only [po_rest1] <;> (first | (exfalso ; omega) | exact ⟨by exact ⟨(hinv.sub (fun _ h => by simp at h) (by simp)), Frz.refl _⟩, by first | rfl | exact hi5.2⟩))
  have hc8l : 0 < (((p.f.fly.drop (((Int.tmod ((Int.tmod p.i p.kk) + p.kk) p.kk) + (1 : Int)).toNat)).take (p.f.fly.length - (((Int.tmod ((Int.tmod p.i p.kk) + p.kk) p.kk) + (1 : Int)).toNat)))).length := List.length_pos_iff.2 hc8
  refine mustP (by simp [limP] ; omega) ?_
  refine ifP (fun hc11 => ?_) (fun hc11 => ?_)
  refine callPR (⟨({ p.f with fly := (p.f.fly.drop (((Int.tmod ((Int.tmod p.i p.kk) + p.kk) p.kk) + (1 : Int)).toNat)).take (p.f.fly.length - (((Int.tmod ((Int.tmod p.i p.kk) + p.kk) p.kk) + (1 : Int)).toNat)) } : F1), ⟨x1.to, x1.fr, x1.c, x1.h, x1.l⟩⟩ : A_come1) rfl (by (try dsimp only [pre_come1]) ; exact ⟨(hinv.sub sub_one (by simp ; omega)), hm⟩) fun r2 hi12 => ?_
  dsimp only [po_come1] at hi12
  exact fin_rest1 hK ⟨r2.f⟩ (by dsimp only [po_rest1] <;> (first | (exfalso ; omega) | exact ⟨by exact hi12.1, by first | rfl | exact hi12.2⟩))
  exact fin_rest1 hK ⟨({ p.f with fly := (p.f.fly.drop (((Int.tmod ((Int.tmod p.i p.kk) + p.kk) p.kk) + (1 : Int)).toNat)).take (p.f.fly.length - (((Int.tmod ((Int.tmod p.i p.kk) + p.kk) p.kk) + (1 : Int)).toNat)) } : F1)⟩ (by dsimp only [po_rest1] <;> (first | (exfalso ; omega) | exact ⟨by exact ⟨(hinv.sub sub_one (by simp ; omega)), Frz.refl _⟩, by first | rfl | exact hi5.2⟩))
  have hc7l : 0 < (((p.f.fly.drop 0).take (((Int.tmod ((Int.tmod p.i p.kk) + p.kk) p.kk).toNat) - 0))).length := List.length_pos_iff.2 hc7
  refine mustP (by simp [limP] ; omega) ?_
  refine mustP (rfl) ?_
  refine mustP (by first | omega | (simp ; omega)) ?_
  refine mustP (rfl) ?_
  refine mustP (by (first | omega | (simp [limP] <;> omega))) ?_
  refine mustP (rfl) ?_
  refine ifP (fun hc13 => ?_) (fun hc13 => ?_)
  have hc13l : (((p.f.fly.drop (((Int.tmod ((Int.tmod p.i p.kk) + p.kk) p.kk) + (1 : Int)).toNat)).take (p.f.fly.length - (((Int.tmod ((Int.tmod p.i p.kk) + p.kk) p.kk) + (1 : Int)).toNat)))).length = 0 := (by rw [hc13] ; rfl)
  refine ifP (fun hc14 => ?_) (fun hc14 => ?_)
  refine callPR (⟨({ p.f with fly := (p.f.fly.drop 0).take (((Int.tmod ((Int.tmod p.i p.kk) + p.kk) p.kk).toNat) - 0) } : F1), ⟨x1.to, x1.fr, x1.c, x1.h, x1.l⟩⟩ : A_come1) rfl (by (try dsimp only [pre_come1]) ; exact ⟨(hinv.sub sub_one (by simp ; omega)), hm⟩) fun r4 hi15 => ?_
  dsimp only [po_come1] at hi15
  exact fin_rest1 hK ⟨r4.f⟩ (by dsimp only [po_rest1] <;> (first | (exfalso ; omega) | exact ⟨by exact hi15.1, by first | rfl | exact hi15.2⟩))
  exact fin_rest1 hK ⟨({ p.f with fly := (p.f.fly.drop 0).take (((Int.tmod ((Int.tmod p.i p.kk) + p.kk) p.kk).toNat) - 0) } : F1)⟩ (by dsimp only [po_rest1] <;> (first | (exfalso ; omega) | exact ⟨by exact ⟨(hinv.sub sub_one (by simp ; omega)), Frz.refl _⟩, by first | rfl | exact hi5.2⟩))
  have hc13l : 0 < (((p.f.fly.drop (((Int.tmod ((Int.tmod p.i p.kk) + p.kk) p.kk) + (1 : Int)).toNat)).take (p.f.fly.length - (((Int.tmod ((Int.tmod p.i p.kk) + p.kk) p.kk) + (1 : Int)).toNat)))).length := List.length_pos_iff.2 hc13
  refine exB_mk ((p.f.fly.drop (((Int.tmod ((Int.tmod p.i p.kk) + p.kk) p.kk) + (1 : Int)).toNat)).take (p.f.fly.length - (((Int.tmod ((Int.tmod p.i p.kk) + p.kk) p.kk) + (1 : Int)).toNat))) ?_
  refine mustP (show rowsR (((p.f.fly.drop (((Int.tmod ((Int.tmod p.i p.kk) + p.kk) p.kk) + (1 : Int)).toNat)).take (p.f.fly.length - (((Int.tmod ((Int.tmod p.i p.kk) + p.kk) p.kk) + (1 : Int)).toNat))).map encT) (((p.f.fly.drop (((Int.tmod ((Int.tmod p.i p.kk) + p.kk) p.kk) + (1 : Int)).toNat)).take (p.f.fly.length - (((Int.tmod ((Int.tmod p.i p.kk) + p.kk) p.kk) + (1 : Int)).toNat))).map encT) from rowsR_refl _) ?_
  refine mustP (by simp [limP] ; omega) ?_
  refine ifP (fun hc16 => ?_) (fun hc16 => ?_)
  refine callPR (⟨({ p.f with fly := ((p.f.fly.drop 0).take (((Int.tmod ((Int.tmod p.i p.kk) + p.kk) p.kk).toNat) - 0)) ++ ((p.f.fly.drop (((Int.tmod ((Int.tmod p.i p.kk) + p.kk) p.kk) + (1 : Int)).toNat)).take (p.f.fly.length - (((Int.tmod ((Int.tmod p.i p.kk) + p.kk) p.kk) + (1 : Int)).toNat))) } : F1), ⟨x1.to, x1.fr, x1.c, x1.h, x1.l⟩⟩ : A_come1) rfl (by (try dsimp only [pre_come1]) ; exact ⟨(hinv.sub sub_cut (by simp ; omega)), hm⟩) fun r3 hi17 => ?_
  dsimp only [po_come1] at hi17
  exact fin_rest1 hK ⟨r3.f⟩ (by dsimp only [po_rest1] <;> (first | (exfalso ; omega) | exact ⟨by exact hi17.1, by first | rfl | exact hi17.2⟩))
  exact fin_rest1 hK ⟨({ p.f with fly := ((p.f.fly.drop 0).take (((Int.tmod ((Int.tmod p.i p.kk) + p.kk) p.kk).toNat) - 0)) ++ ((p.f.fly.drop (((Int.tmod ((Int.tmod p.i p.kk) + p.kk) p.kk) + (1 : Int)).toNat)).take (p.f.fly.length - (((Int.tmod ((Int.tmod p.i p.kk) + p.kk) p.kk) + (1 : Int)).toNat))) } : F1)⟩ (by dsimp only [po_rest1] <;> (first | (exfalso ; omega) | exact ⟨by exact ⟨(hinv.sub sub_cut (by simp ; omega)), Frz.refl _⟩, by first | rfl | exact hi5.2⟩))
  refine ifP (fun hc18 => ?_) (fun hc18 => ?_)
  refine callPR (⟨p.f, ⟨x1.to, x1.fr, x1.c, x1.h, x1.l⟩⟩ : A_come1) rfl (by (try dsimp only [pre_come1]) ; exact ⟨hinv, hm⟩) fun r5 hi19 => ?_
  dsimp only [po_come1] at hi19
  exact fin_rest1 hK ⟨r5.f⟩ (by dsimp only [po_rest1] <;> (first | (exfalso ; omega) | exact ⟨by exact hi19.1, by first | rfl | exact hi19.2⟩))
  exact fin_rest1 hK ⟨p.f⟩ (by dsimp only [po_rest1] <;> (first | (exfalso ; omega) | exact ⟨by exact ⟨hinv, Frz.refl _⟩, by first | rfl | exact hi5.2⟩))
  exact fin_rest1 hK ⟨p.f⟩ (by dsimp only [po_rest1] <;> (first | (exfalso ; omega) | exact ⟨by exact ⟨hinv, Frz.refl _⟩, by first | rfl | exact hi0.2⟩))
  exact fin_rest1 hK ⟨p.f⟩ (by dsimp only [po_rest1] <;> (first | (exfalso ; omega) | exact ⟨by exact ⟨hinv, Frz.refl _⟩, by first | rfl | exact hi0.2⟩))
theorem lo_rest1 : LpOk Try.prog 203 1 lp_step1 false 0 bd_rest1 := by
  refine sp_of (lf := 600) tb_mix (cfT_ok nat_come1_ok) (by rfl) (fun b j x h => by cases h) (fun S M nx K h => ?_)
  obtain ⟨p, h⟩ := exB_ok h
  obtain ⟨e, h9⟩ := mustP_ok h
  clear h
  have e1 : S = (I_rest1 p).1 := congrArg Prod.fst e
  have e2 : M = (I_rest1 p).2.1 := congrArg (fun x => x.2.1) e
  have e3 : nx = (I_rest1 p).2.2 := congrArg (fun x => x.2.2) e
  subst e1; subst e2; subst e3
  exact vb_rest1 p K (mustP_ok h9).1 (mustP_ok h9).2
structure A_step1 where
  f : F1
  k : Int
  x : Int
  nn : Int
  i : Int
structure R_step1 where
  f : F1
def po_step1 (p : A_step1) (r : R_step1) : Prop := (FI1 r.f ∧ Fr1 p.f r.f) ∧ 0 ≤ r.f.cnt ∧ r.f.cnt ≤ p.f.cnt + 1
noncomputable def I_step1 (p : A_step1) : IE := ([.ptr 0 0, .agg [.sy (.int 0 p.k), .sy (.int 0 p.x), .sy (.int 0 p.nn), .sy (.int 0 p.i)]], (Fd1n p.f), 7)
noncomputable def out_step1 (p : A_step1) (K : KE) : Bool := allB fun r : R_step1 => ifB (prB (po_step1 p r)) (K (.tup []) (Fd1n r.f) 7) true
def pre_step1 (p : A_step1) : Prop := FI1 p.f ∧ 0 ≤ p.f.cnt ∧ p.f.cnt ≤ 1000000
theorem fin_step1 {p : A_step1} {K : KE} (hK : out_step1 p K = true) (r : R_step1) (h : po_step1 p r) : K (.tup []) (Fd1n r.f) 7 = true := ifB_use h (allB_ok hK r)
theorem vf_step1 (p : A_step1) (K : KE) (hpre : pre_step1 p) (hK : out_step1 p K = true) : (funE 1 (cfT nat_come1) lp_step1 600 ft_step1 (I_step1 p).1 (I_step1 p).2.1 (I_step1 p).2.2 K) = true := by
  refine Eq.trans (b := (let y0 : Int := (Int.tmod ((Int.tmod p.x (1 : Int)) + (1 : Int)) (1 : Int)); let y1 : Int := ((Int.tmod p.nn (3 : Int)) + (3 : Int)); must (prB ((1 : Int) ≠ 0)) (must (prB (InR 0 ((Int.tmod p.x (1 : Int)) + (1 : Int)))) (must (prB ((1 : Int) ≠ 0)) (ifB (prB (p.k = (0 : Int))) (must (prB (InR 0 (p.f.cnt + (1 : Int)))) (must (prB ((16 : Int) ≠ 0)) (must (prB (InR 1 (Int.tmod (p.f.cnt + (1 : Int)) (16 : Int)))) (exB fun p1 : A_add1 => must (prB (([.ptr 0 0, .agg [.int 1 (.ofNat 2), .int 1 (.ofNat 0), .int 2 (.ofNat 0), .int 3 (.ofNat 0), .int 1 (.ofNat 0), .int 1 (.ofNat 0), .int 1 (.ofNat 0), .int 1 (.ofNat 0), .int 1 (.ofNat 0), .int 1 (.ofNat 0), .int 1 (.ofNat 0), .int 3 (.ofNat 0), .nilS, .int 1 (.ofNat 0), .str [], .nilS, .sy (.int 1 (Int.tmod (p.f.cnt + (1 : Int)) (16 : Int))), .int 2 (.ofNat 1)]], (Ro1n p.f.s0.l p.f.s0.com p.f.s0.sh p.f.c0), 4) = I_add1 p1)) (must (prB (pre_add1 p1)) (allB fun r1 : R_add1 => ifB (prB (po_add1 p1 r1)) (K (.tup []) (Fd1n ⟨⟨r1.l, r1.com, p1.sh⟩, r1.c0, p.f.fly, p.f.cnt + (1 : Int)⟩) 7) true)))))) (ifB (prB (p.k = (1 : Int))) (ifB (prB ((0 : Int) < y0)) (ifB (prB ((p.f.fly.length : Int) < (100 : Int))) (must (prB ((3 : Int) ≠ 0)) (must (prB (InR 0 y1)) (must (prB ((3 : Int) ≠ 0)) (must (prB (InR 0 ((1 : Int) + (Int.tmod y1 (3 : Int))))) (must (prB (InR 1 y0)) (must (prB (((.int 0 p.nn) : SY) = (.int 0 p.nn))) (exB fun p2 : A_since1 => must (prB (([.ptr 0 0, .agg [.sy (.int 1 y0), .int 2 (.ofNat 1)], .sy (.int 0 ((1 : Int) + (Int.tmod y1 (3 : Int))))], (Ro1n p.f.s0.l p.f.s0.com p.f.s0.sh p.f.c0), 4) = I_since1 p2)) (must (prB (pre_since1 p2)) (allB fun r2 : R_since1 => ifB (prB (po_since1 p2 r2)) (must (prB (((.prow 2 p.f.fly.length) : SY) = (.prow 2 p.f.fly.length))) (must (prB (((.prow 2 p.f.fly.length) : SY) = (.prow 2 p.f.fly.length))) (must (prB (p.f.fly.length = p.f.fly.length)) (exB fun m1 : List Told => must (prB (rowsR (m1.map encT) [[.sint 0 y0, .sint 0 r2.fr, .sint 0 p2.com, .imm r2.h 18 Int r2.o encK]])) (must (prB (limP 48 (p.f.fly.length + m1.length))) (K (.tup []) (Fd1 ⟨⟨p2.l, p2.com, p2.sh⟩, p2.c0, p.f.fly ++ m1, p.f.cnt⟩ ((p.f.fly ++ m1).length) p2.l.length) 7)))))) true))))))))) (ifB (prB (p.k = (2 : Int))) (ifB (prB ((0 : Int) < y0)) (ifB (prB ((p.f.fly.length : Int) < (100 : Int))) (ifB (prB (y0 = 0)) (must (prB (((.prow 2 p.f.fly.length) : SY) = (.prow 2 p.f.fly.length))) (must (prB (((.prow 2 p.f.fly.length) : SY) = (.prow 2 p.f.fly.length))) (must (prB (p.f.fly.length = p.f.fly.length)) (exB fun m2 : List Told => must (prB (rowsR (m2.map encT) [[.int 0 (.ofNat 0), .sint 0 (p.f.s0.l.length : Int), .sint 0 y0, .nilS]])) (must (prB (limP 48 (p.f.fly.length + m2.length))) (K (.tup []) (Fd1 ({ p.f with fly := p.f.fly ++ m2 } : F1) ((p.f.fly ++ m2).length) p.f.s0.l.length) 7)))))) (must (prB (False)) (true))) (exB fun p3 : A_rest1 => must (prB (((.cons 5 (.sy (.int 0 (p.f.fly.length : Int))) (.cons 4 (.sy (.int 0 y0)) (.cons 3 (.ptr 1 0) (.cons 0 (.ptr 0 0) .nil)))), (Fb1n p.f p.k p.x p.nn p.i), 8) = I_rest1 p3)) (must (prB (pre_rest1 p3)) (allB fun r3 : R_rest1 => ifB (prB (po_rest1 p3 r3)) (K (.tup []) (Fd1n r3.f) 7) true)))) (exB fun p4 : A_rest1 => must (prB (((.cons 5 (.sy (.int 0 (p.f.fly.length : Int))) (.cons 4 (.sy (.int 0 y0)) (.cons 3 (.ptr 1 0) (.cons 0 (.ptr 0 0) .nil)))), (Fb1n p.f p.k p.x p.nn p.i), 8) = I_rest1 p4)) (must (prB (pre_rest1 p4)) (allB fun r4 : R_rest1 => ifB (prB (po_rest1 p4 r4)) (K (.tup []) (Fd1n r4.f) 7) true)))) (exB fun p5 : A_rest1 => must (prB (((.cons 5 (.sy (.int 0 (p.f.fly.length : Int))) (.cons 4 (.sy (.int 0 y0)) (.cons 3 (.ptr 1 0) (.cons 0 (.ptr 0 0) .nil)))), (Fb1n p.f p.k p.x p.nn p.i), 8) = I_rest1 p5)) (must (prB (pre_rest1 p5)) (allB fun r5 : R_rest1 => ifB (prB (po_rest1 p5 r5)) (K (.tup []) (Fd1n r5.f) 7) true))))) (ifB (prB (p.k = (2 : Int))) (ifB (prB ((0 : Int) < y0)) (ifB (prB ((p.f.fly.length : Int) < (100 : Int))) (ifB (prB (y0 = 0)) (must (prB (((.prow 2 p.f.fly.length) : SY) = (.prow 2 p.f.fly.length))) (must (prB (((.prow 2 p.f.fly.length) : SY) = (.prow 2 p.f.fly.length))) (must (prB (p.f.fly.length = p.f.fly.length)) (exB fun m3 : List Told => must (prB (rowsR (m3.map encT) [[.int 0 (.ofNat 0), .sint 0 (p.f.s0.l.length : Int), .sint 0 y0, .nilS]])) (must (prB (limP 48 (p.f.fly.length + m3.length))) (K (.tup []) (Fd1 ({ p.f with fly := p.f.fly ++ m3 } : F1) ((p.f.fly ++ m3).length) p.f.s0.l.length) 7)))))) (must (prB (False)) (true))) (exB fun p6 : A_rest1 => must (prB (((.cons 5 (.sy (.int 0 (p.f.fly.length : Int))) (.cons 4 (.sy (.int 0 y0)) (.cons 3 (.ptr 1 0) (.cons 0 (.ptr 0 0) .nil)))), (Fb1n p.f p.k p.x p.nn p.i), 8) = I_rest1 p6)) (must (prB (pre_rest1 p6)) (allB fun r6 : R_rest1 => ifB (prB (po_rest1 p6 r6)) (K (.tup []) (Fd1n r6.f) 7) true)))) (exB fun p7 : A_rest1 => must (prB (((.cons 5 (.sy (.int 0 (p.f.fly.length : Int))) (.cons 4 (.sy (.int 0 y0)) (.cons 3 (.ptr 1 0) (.cons 0 (.ptr 0 0) .nil)))), (Fb1n p.f p.k p.x p.nn p.i), 8) = I_rest1 p7)) (must (prB (pre_rest1 p7)) (allB fun r7 : R_rest1 => ifB (prB (po_rest1 p7 r7)) (K (.tup []) (Fd1n r7.f) 7) true)))) (exB fun p8 : A_rest1 => must (prB (((.cons 5 (.sy (.int 0 (p.f.fly.length : Int))) (.cons 4 (.sy (.int 0 y0)) (.cons 3 (.ptr 1 0) (.cons 0 (.ptr 0 0) .nil)))), (Fb1n p.f p.k p.x p.nn p.i), 8) = I_rest1 p8)) (must (prB (pre_rest1 p8)) (allB fun r8 : R_rest1 => ifB (prB (po_rest1 p8 r8)) (K (.tup []) (Fd1n r8.f) 7) true))))) (ifB (prB (p.k = (2 : Int))) (ifB (prB ((0 : Int) < y0)) (ifB (prB ((p.f.fly.length : Int) < (100 : Int))) (ifB (prB (y0 = 0)) (must (prB (((.prow 2 p.f.fly.length) : SY) = (.prow 2 p.f.fly.length))) (must (prB (((.prow 2 p.f.fly.length) : SY) = (.prow 2 p.f.fly.length))) (must (prB (p.f.fly.length = p.f.fly.length)) (exB fun m4 : List Told => must (prB (rowsR (m4.map encT) [[.int 0 (.ofNat 0), .sint 0 (p.f.s0.l.length : Int), .sint 0 y0, .nilS]])) (must (prB (limP 48 (p.f.fly.length + m4.length))) (K (.tup []) (Fd1 ({ p.f with fly := p.f.fly ++ m4 } : F1) ((p.f.fly ++ m4).length) p.f.s0.l.length) 7)))))) (must (prB (False)) (true))) (exB fun p9 : A_rest1 => must (prB (((.cons 5 (.sy (.int 0 (p.f.fly.length : Int))) (.cons 4 (.sy (.int 0 y0)) (.cons 3 (.ptr 1 0) (.cons 0 (.ptr 0 0) .nil)))), (Fb1n p.f p.k p.x p.nn p.i), 8) = I_rest1 p9)) (must (prB (pre_rest1 p9)) (allB fun r9 : R_rest1 => ifB (prB (po_rest1 p9 r9)) (K (.tup []) (Fd1n r9.f) 7) true)))) (exB fun p10 : A_rest1 => must (prB (((.cons 5 (.sy (.int 0 (p.f.fly.length : Int))) (.cons 4 (.sy (.int 0 y0)) (.cons 3 (.ptr 1 0) (.cons 0 (.ptr 0 0) .nil)))), (Fb1n p.f p.k p.x p.nn p.i), 8) = I_rest1 p10)) (must (prB (pre_rest1 p10)) (allB fun r10 : R_rest1 => ifB (prB (po_rest1 p10 r10)) (K (.tup []) (Fd1n r10.f) 7) true)))) (exB fun p11 : A_rest1 => must (prB (((.cons 5 (.sy (.int 0 (p.f.fly.length : Int))) (.cons 4 (.sy (.int 0 y0)) (.cons 3 (.ptr 1 0) (.cons 0 (.ptr 0 0) .nil)))), (Fb1n p.f p.k p.x p.nn p.i), 8) = I_rest1 p11)) (must (prB (pre_rest1 p11)) (allB fun r11 : R_rest1 => ifB (prB (po_rest1 p11 r11)) (K (.tup []) (Fd1n r11.f) 7) true)))))))))) (by kernel_rfl) ?_
  dsimp only [pre_step1] at hpre
  obtain ⟨hinv, k1, k2⟩ := hpre
  have hinv : FInv p.f.s0 _ _ p.f.fly := hinv
  have hs : p.f.s0.l.length ≤ 400 := hinv.short
  have hfew : p.f.fly.length ≤ 100 := hinv.few
  have f0 : p.f.c0 ≤ (p.f.s0.l.length : Int) ∧ 0 ≤ p.f.c0 ∧ p.f.s0.l.length ≤ p.f.s0.l.length := ⟨(hinv.each 0 _ _ rfl rfl).cl, (hinv.each 0 _ _ rfl rfl).c0, (hinv.each 0 _ _ rfl rfl).len⟩
  have t1 := tmb 1 (by decide) p.x
  have t2 := tmp 1 (by decide) (p.x.tmod 1 + 1) (by omega)
  have t3 := tmb 3 (by decide) p.nn
  have t4 := tmp 3 (by decide) (p.nn.tmod 3 + 3) (by omega)
  have t5 := tmp 16 (by decide) (p.f.cnt + 1) (by omega)
  refine mustP (by decide) ?_
  refine mustP (by simp only [InR] ; omega) ?_
  refine mustP (by decide) ?_
  refine ifP (fun hc1 => ?_) (fun hc1 => ?_)
  refine mustP (by simp only [InR] ; omega) ?_
  refine mustP (by decide) ?_
  refine mustP (by simp only [InR] ; omega) ?_
  refine callPR (⟨p.f.s0.l, p.f.s0.com, p.f.s0.sh, p.f.c0, Int.tmod (p.f.cnt + (1 : Int)) (16 : Int)⟩ : A_add1) rfl (by (try dsimp only [pre_add1]) ; omega) fun r1 hi2 => ?_
  dsimp only [po_add1] at hi2
  exact fin_step1 hK ⟨⟨⟨r1.l, r1.com, p.f.s0.sh⟩, r1.c0, p.f.fly, p.f.cnt + (1 : Int)⟩⟩ (by dsimp only [po_step1] <;> (refine ⟨?_, by omega, by omega⟩ ; first | (exfalso ; omega) | exact tr_add (maj := 1) hinv (by simp) (by assumption)))
  refine ifP (fun hc3 => ?_) (fun hc3 => ?_)
  refine ifP (fun hc4 => ?_) (fun hc4 => ?_)
  refine ifP (fun hc5 => ?_) (fun hc5 => ?_)
  refine mustP (by decide) ?_
  refine mustP (by simp only [InR] ; omega) ?_
  refine mustP (by decide) ?_
  refine mustP (by simp only [InR] ; omega) ?_
  refine mustP (by simp only [InR] ; omega) ?_
  refine mustP (rfl) ?_
  refine callPR (⟨p.f.s0.l, p.f.s0.com, p.f.s0.sh, p.f.c0, Int.tmod ((Int.tmod p.x (1 : Int)) + (1 : Int)) (1 : Int), (1 : Int) + (Int.tmod ((Int.tmod p.nn (3 : Int)) + (3 : Int)) (3 : Int))⟩ : A_since1) rfl (by (try dsimp only [pre_since1]) ; omega) fun r2 hi6 => ?_
  dsimp only [po_since1] at hi6
  refine mustP (rfl) ?_
  refine mustP (rfl) ?_
  refine mustP (rfl) ?_
  refine exB_mk [⟨Int.tmod ((Int.tmod p.x (1 : Int)) + (1 : Int)) (1 : Int), r2.fr, p.f.s0.com, r2.h, r2.o⟩] ?_
  refine mustP (show rowsR ([⟨Int.tmod ((Int.tmod p.x (1 : Int)) + (1 : Int)) (1 : Int), r2.fr, p.f.s0.com, r2.h, r2.o⟩].map encT) [[.sint 0 (Int.tmod ((Int.tmod p.x (1 : Int)) + (1 : Int)) (1 : Int)), .sint 0 r2.fr, .sint 0 p.f.s0.com, .imm r2.h 18 Int r2.o encK]] from ⟨⟨.inl rfl, ⟨.inl rfl, ⟨.inl rfl, ⟨.inl rfl, trivial⟩⟩⟩⟩, trivial⟩) ?_
  refine mustP (by simp [limP] ; omega) ?_
  exact fin_step1 hK ⟨⟨⟨p.f.s0.l, p.f.s0.com, p.f.s0.sh⟩, p.f.c0, p.f.fly ++ [⟨Int.tmod ((Int.tmod p.x (1 : Int)) + (1 : Int)) (1 : Int), r2.fr, p.f.s0.com, r2.h, r2.o⟩], p.f.cnt⟩⟩ (by dsimp only [po_step1] <;> (refine ⟨?_, by omega, by omega⟩ ; first | (exfalso ; omega) | exact ⟨tr_since (m := 1) hinv (by omega) (by simp) (by omega) (by assumption), Frz.refl _⟩))
  refine ifP (fun hc7 => ?_) (fun hc7 => ?_)
  refine ifP (fun hc8 => ?_) (fun hc8 => ?_)
  refine ifP (fun hc9 => ?_) (fun hc9 => ?_)
  refine ifP (fun hc10 => ?_) (fun hc10 => ?_)
  refine mustP (rfl) ?_
  refine mustP (rfl) ?_
  refine mustP (rfl) ?_
  refine exB_mk [⟨(0 : Int), (p.f.s0.l.length : Int), Int.tmod ((Int.tmod p.x (1 : Int)) + (1 : Int)) (1 : Int), (.slice none 0 0), []⟩] ?_
  refine mustP (show rowsR ([⟨(0 : Int), (p.f.s0.l.length : Int), Int.tmod ((Int.tmod p.x (1 : Int)) + (1 : Int)) (1 : Int), (.slice none 0 0), []⟩].map encT) [[.int 0 (.ofNat 0), .sint 0 (p.f.s0.l.length : Int), .sint 0 (Int.tmod ((Int.tmod p.x (1 : Int)) + (1 : Int)) (1 : Int)), .nilS]] from ⟨⟨.inr (.inl ⟨_, _, rfl, rfl⟩), ⟨.inl rfl, ⟨.inl rfl, ⟨.inr (.inr ⟨_, _, _, by decide, rfl, rfl⟩), trivial⟩⟩⟩⟩, trivial⟩) ?_
  refine mustP (by simp [limP] ; omega) ?_
  exact fin_step1 hK ⟨({ p.f with fly := p.f.fly ++ [⟨(0 : Int), (p.f.s0.l.length : Int), Int.tmod ((Int.tmod p.x (1 : Int)) + (1 : Int)) (1 : Int), (.slice none 0 0), []⟩] } : F1)⟩ (by dsimp only [po_step1] <;> (refine ⟨?_, by omega, by omega⟩ ; first | (exfalso ; omega) | exact ⟨tr_len (j := 0) hinv (by omega) rfl (by omega) rfl, Frz.refl _⟩))
  refine mustP (by omega) ?_
  rfl
  refine callPR (⟨p.f, p.k, p.x, p.nn, p.i, Int.tmod ((Int.tmod p.x (1 : Int)) + (1 : Int)) (1 : Int), (p.f.fly.length : Int)⟩ : A_rest1) rfl (by (try dsimp only [pre_rest1]) ; exact ⟨hinv, by omega, by omega, by omega, by omega, by omega⟩) fun r3 hi11 => ?_
  dsimp only [po_rest1] at hi11
  exact fin_step1 hK ⟨r3.f⟩ (by dsimp only [po_step1] <;> (refine ⟨?_, by omega, by omega⟩ ; first | (exfalso ; omega) | exact hi11.1))
  refine callPR (⟨p.f, p.k, p.x, p.nn, p.i, Int.tmod ((Int.tmod p.x (1 : Int)) + (1 : Int)) (1 : Int), (p.f.fly.length : Int)⟩ : A_rest1) rfl (by (try dsimp only [pre_rest1]) ; exact ⟨hinv, by omega, by omega, by omega, by omega, by omega⟩) fun r4 hi12 => ?_
  dsimp only [po_rest1] at hi12
  exact fin_step1 hK ⟨r4.f⟩ (by dsimp only [po_step1] <;> (refine ⟨?_, by omega, by omega⟩ ; first | (exfalso ; omega) | exact hi12.1))
  refine callPR (⟨p.f, p.k, p.x, p.nn, p.i, Int.tmod ((Int.tmod p.x (1 : Int)) + (1 : Int)) (1 : Int), (p.f.fly.length : Int)⟩ : A_rest1) rfl (by (try dsimp only [pre_rest1]) ; exact ⟨hinv, by omega, by omega, by omega, by omega, by omega⟩) fun r5 hi13 => ?_
  dsimp only [po_rest1] at hi13
  exact fin_step1 hK ⟨r5.f⟩ (by dsimp only [po_step1] <;> (refine ⟨?_, by omega, by omega⟩ ; first | (exfalso ; omega) | exact hi13.1))
  refine ifP (fun hc14 => ?_) (fun hc14 => ?_)
  refine ifP (fun hc15 => ?_) (fun hc15 => ?_)
  refine ifP (fun hc16 => ?_) (fun hc16 => ?_)
  refine ifP (fun hc17 => ?_) (fun hc17 => ?_)
  refine mustP (rfl) ?_
  refine mustP (rfl) ?_
  refine mustP (rfl) ?_
  refine exB_mk [⟨(0 : Int), (p.f.s0.l.length : Int), Int.tmod ((Int.tmod p.x (1 : Int)) + (1 : Int)) (1 : Int), (.slice none 0 0), []⟩] ?_
  refine mustP (show rowsR ([⟨(0 : Int), (p.f.s0.l.length : Int), Int.tmod ((Int.tmod p.x (1 : Int)) + (1 : Int)) (1 : Int), (.slice none 0 0), []⟩].map encT) [[.int 0 (.ofNat 0), .sint 0 (p.f.s0.l.length : Int), .sint 0 (Int.tmod ((Int.tmod p.x (1 : Int)) + (1 : Int)) (1 : Int)), .nilS]] from ⟨⟨.inr (.inl ⟨_, _, rfl, rfl⟩), ⟨.inl rfl, ⟨.inl rfl, ⟨.inr (.inr ⟨_, _, _, by decide, rfl, rfl⟩), trivial⟩⟩⟩⟩, trivial⟩) ?_
  refine mustP (by simp [limP] ; omega) ?_
  exact fin_step1 hK ⟨({ p.f with fly := p.f.fly ++ [⟨(0 : Int), (p.f.s0.l.length : Int), Int.tmod ((Int.tmod p.x (1 : Int)) + (1 : Int)) (1 : Int), (.slice none 0 0), []⟩] } : F1)⟩ (by dsimp only [po_step1] <;> (refine ⟨?_, by omega, by omega⟩ ; first | (exfalso ; omega) | exact ⟨tr_len (j := 0) hinv (by omega) rfl (by omega) rfl, Frz.refl _⟩))
  refine mustP (by omega) ?_
  rfl
  refine callPR (⟨p.f, p.k, p.x, p.nn, p.i, Int.tmod ((Int.tmod p.x (1 : Int)) + (1 : Int)) (1 : Int), (p.f.fly.length : Int)⟩ : A_rest1) rfl (by (try dsimp only [pre_rest1]) ; exact ⟨hinv, by omega, by omega, by omega, by omega, by omega⟩) fun r6 hi18 => ?_
  dsimp only [po_rest1] at hi18
  exact fin_step1 hK ⟨r6.f⟩ (by dsimp only [po_step1] <;> (refine ⟨?_, by omega, by omega⟩ ; first | (exfalso ; omega) | exact hi18.1))
  refine callPR (⟨p.f, p.k, p.x, p.nn, p.i, Int.tmod ((Int.tmod p.x (1 : Int)) + (1 : Int)) (1 : Int), (p.f.fly.length : Int)⟩ : A_rest1) rfl (by (try dsimp only [pre_rest1]) ; exact ⟨hinv, by omega, by omega, by omega, by omega, by omega⟩) fun r7 hi19 => ?_
  dsimp only [po_rest1] at hi19
  exact fin_step1 hK ⟨r7.f⟩ (by dsimp only [po_step1] <;> (refine ⟨?_, by omega, by omega⟩ ; first | (exfalso ; omega) | exact hi19.1))
  refine callPR (⟨p.f, p.k, p.x, p.nn, p.i, Int.tmod ((Int.tmod p.x (1 : Int)) + (1 : Int)) (1 : Int), (p.f.fly.length : Int)⟩ : A_rest1) rfl (by (try dsimp only [pre_rest1]) ; exact ⟨hinv, by omega, by omega, by omega, by omega, by omega⟩) fun r8 hi20 => ?_
  dsimp only [po_rest1] at hi20
  exact fin_step1 hK ⟨r8.f⟩ (by dsimp only [po_step1] <;> (refine ⟨?_, by omega, by omega⟩ ; first | (exfalso ; omega) | exact hi20.1))
  refine ifP (fun hc21 => ?_) (fun hc21 => ?_)
  refine ifP (fun hc22 => ?_) (fun hc22 => ?_)
  refine ifP (fun hc23 => ?_) (fun hc23 => ?_)
  refine ifP (fun hc24 => ?_) (fun hc24 => ?_)
  refine mustP (rfl) ?_
  refine mustP (rfl) ?_
  refine mustP (rfl) ?_
  refine exB_mk [⟨(0 : Int), (p.f.s0.l.length : Int), Int.tmod ((Int.tmod p.x (1 : Int)) + (1 : Int)) (1 : Int), (.slice none 0 0), []⟩] ?_
  refine mustP (show rowsR ([⟨(0 : Int), (p.f.s0.l.length : Int), Int.tmod ((Int.tmod p.x (1 : Int)) + (1 : Int)) (1 : Int), (.slice none 0 0), []⟩].map encT) [[.int 0 (.ofNat 0), .sint 0 (p.f.s0.l.length : Int), .sint 0 (Int.tmod ((Int.tmod p.x (1 : Int)) + (1 : Int)) (1 : Int)), .nilS]] from ⟨⟨.inr (.inl ⟨_, _, rfl, rfl⟩), ⟨.inl rfl, ⟨.inl rfl, ⟨.inr (.inr ⟨_, _, _, by decide, rfl, rfl⟩), trivial⟩⟩⟩⟩, trivial⟩) ?_
  refine mustP (by simp [limP] ; omega) ?_
  exact fin_step1 hK ⟨({ p.f with fly := p.f.fly ++ [⟨(0 : Int), (p.f.s0.l.length : Int), Int.tmod ((Int.tmod p.x (1 : Int)) + (1 : Int)) (1 : Int), (.slice none 0 0), []⟩] } : F1)⟩ (by dsimp only [po_step1] <;> (refine ⟨?_, by omega, by omega⟩ ; first | (exfalso ; omega) | exact ⟨tr_len (j := 0) hinv (by omega) rfl (by omega) rfl, Frz.refl _⟩))
  refine mustP (by omega) ?_
  rfl
  refine callPR (⟨p.f, p.k, p.x, p.nn, p.i, Int.tmod ((Int.tmod p.x (1 : Int)) + (1 : Int)) (1 : Int), (p.f.fly.length : Int)⟩ : A_rest1) rfl (by (try dsimp only [pre_rest1]) ; exact ⟨hinv, by omega, by omega, by omega, by omega, by omega⟩) fun r9 hi25 => ?_
  dsimp only [po_rest1] at hi25
  exact fin_step1 hK ⟨r9.f⟩ (by dsimp only [po_step1] <;> (refine ⟨?_, by omega, by omega⟩ ; first | (exfalso ; omega) | exact hi25.1))
  refine callPR (⟨p.f, p.k, p.x, p.nn, p.i, Int.tmod ((Int.tmod p.x (1 : Int)) + (1 : Int)) (1 : Int), (p.f.fly.length : Int)⟩ : A_rest1) rfl (by (try dsimp only [pre_rest1]) ; exact ⟨hinv, by omega, by omega, by omega, by omega, by omega⟩) fun r10 hi26 => ?_
  dsimp only [po_rest1] at hi26
  exact fin_step1 hK ⟨r10.f⟩ (by dsimp only [po_step1] <;> (refine ⟨?_, by omega, by omega⟩ ; first | (exfalso ; omega) | exact hi26.1))
  refine callPR (⟨p.f, p.k, p.x, p.nn, p.i, Int.tmod ((Int.tmod p.x (1 : Int)) + (1 : Int)) (1 : Int), (p.f.fly.length : Int)⟩ : A_rest1) rfl (by (try dsimp only [pre_rest1]) ; exact ⟨hinv, by omega, by omega, by omega, by omega, by omega⟩) fun r11 hi27 => ?_
  dsimp only [po_rest1] at hi27
  exact fin_step1 hK ⟨r11.f⟩ (by dsimp only [po_step1] <;> (refine ⟨?_, by omega, by omega⟩ ; first | (exfalso ; omega) | exact hi27.1))
noncomputable def ec_step1 : SpecE := tstE (elB 1 1) (esOf I_step1 (spP pre_step1 out_step1)) (fun _ _ _ _ => false)
theorem nc_step1 : NatE Try.prog 28 1 ec_step1 := tstE_ok (natE_said (f := 28) (k := 1) (lp := lp_step1) (lf := 600) tb_mix (cfT_ok nat_come1_ok) ft_step1_ok (by rfl) (fun b j x h => (mem_step lo_rest1 (fun h => (by cases h)) h)) fun p K h => vf_step1 p K (mustP_ok h).1 (mustP_ok h).2) natE_no
noncomputable def nat_step1 := natC nat_come1 1 ec_step1 28 [(0, 4), (1, 15)]
theorem nat_step1_ok : NatsOk Try.prog nat_step1 := natC_ok nc_step1 nat_come1_ok
def ft_come2 : XF := ft_come1
theorem ft_come2_ok : chkF Try.prog 41 ft_come2 = true := ft_come1_ok
structure A_come2 where
  f : F2
  t : Told
structure R_come2 where
  f : F2
def po_come2 (p : A_come2) (r : R_come2) : Prop := (FI2 r.f ∧ Fr2 p.f r.f) ∧ r.f.cnt = p.f.cnt
noncomputable def I_come2 (p : A_come2) : IE := ([.ptr 0 0, .agg [.sy (.int 0 p.t.to), .sy (.int 0 p.t.fr), .sy (.int 0 p.t.c), .sy (.imm p.t.h 18 Int p.t.l encK)]], (Fd2n p.f), 11)
noncomputable def out_come2 (p : A_come2) (K : KE) : Bool := allB fun r : R_come2 => ifB (prB (po_come2 p r)) (K (.tup []) (Fd2n r.f) 11) true
def pre_come2 (p : A_come2) : Prop := FI2 p.f ∧ MsgOk p.f.s0 [p.f.s1] p.t
theorem fin_come2 {p : A_come2} {K : KE} (hK : out_come2 p K = true) (r : R_come2) (h : po_come2 p r) : K (.tup []) (Fd2n r.f) 11 = true := ifB_use h (allB_ok hK r)
theorem vf_come2 (p : A_come2) (K : KE) (hpre : pre_come2 p) (hK : out_come2 p K = true) : (funE 1 (cfT nat_step1) noLp 600 ft_come2 (I_come2 p).1 (I_come2 p).2.1 (I_come2 p).2.2 K) = true := by
  refine Eq.trans (b := (ifB (prB (p.t.to = (0 : Int))) (must (prB (InR 1 p.t.c)) (must (prB (((.int 0 p.t.fr) : SY) = (.int 0 p.t.fr))) (exB fun p1 : A_ack2 => must (prB (([.ptr 0 0, .agg [.sy (.int 1 p.t.c), .int 2 (.ofNat 1)], .sy (.int 0 p.t.fr)], (Ro2n p.f.s0.l p.f.s0.com p.f.s0.sh p.f.c0 p.f.c1), 4) = I_ack2 p1)) (must (prB (pre_ack2 p1)) (allB fun r1 : R_ack2 => ifB (prB (po_ack2 p1 r1)) (K (.tup []) (Fd2n ⟨⟨p1.l, r1.com, p1.sh⟩, p.f.s1, r1.c0, r1.c1, p.f.fly, p.f.cnt⟩) 11) true))))) (ifB (prB (p.t.to = 0)) (exB fun p3 : A_take2 => must (prB (([.ptr 0 0, .sy (.int 0 p.t.fr), .sy (.imm p.t.h 18 Int p.t.l encK), .sy (.int 0 p.t.c)], (Ro2n p.f.s0.l p.f.s0.com p.f.s0.sh p.f.c0 p.f.c1), 4) = I_take2 p3)) (must (prB (pre_take2 p3)) (allB fun r3 : R_take2 => ifB (prB (po_take2 p3 r3)) (K (.tup []) (.node (.node (.node (.node .leaf (some (.map [(.agg [.int 1 (.ofNat 0), .int 2 (.ofNat 1)], .sy (.int 0 p3.c0), 0), (.agg [.int 1 (.ofNat 1), .int 2 (.ofNat 1)], .sy (.int 0 p3.c1), 1)] 2)) .leaf) (some (.blk false 67 10 [[.int 1 (.ofNat 0), .int 3 (.ofNat 1), .sl 5 0 2 (.rest 0), .sy (.int 1 p3.me), .int 2 (.ofNat 1), .sy (.prow 6 r3.l.length), .int 0 (.ofNat 0), .sy (.int 0 r3.com), .sy (.bool p3.sh), .map 7]])) .leaf) (some (.blk true 22 1 [[.ptr 3 0], [.ptr 4 0]])) (.node (.node .leaf (some (.prow 45 18 Int p.f.s1.l encK)) .leaf) (some (.blk true 31 2 [[.int 1 (.ofNat 0), .int 2 (.ofNat 1)], [.int 1 (.ofNat 1), .int 2 (.ofNat 1)]])) .leaf)) (some (.blk false 81 3 [[.sl 1 0 2 (.rest 0), .sy (.prow 2 p.f.fly.length), .sy (.int 0 p.f.cnt)]])) (.node (.node (.node .leaf (some (.blk true 31 2 [[.int 1 (.ofNat 0), .int 2 (.ofNat 1)], [.int 1 (.ofNat 1), .int 2 (.ofNat 1)]])) .leaf) (some (.blk false 67 10 [[.int 1 (.ofNat 0), .int 3 (.ofNat 1), .sl 8 0 2 (.rest 0), .sy (.int 1 1), .int 2 (.ofNat 1), .sy (.prow 9 p.f.s1.l.length), .int 0 (.ofNat 0), .sy (.int 0 p.f.s1.com), .sy (.bool p.f.s1.sh), .map 10]])) .leaf) (some (.prow 100 4 Told p.f.fly encT)) (.node (.node .leaf (some (.map [(.agg [.int 1 (.ofNat 0), .int 2 (.ofNat 1)], .sy (.int 0 0), 0), (.agg [.int 1 (.ofNat 1), .int 2 (.ofNat 1)], .sy (.int 0 0), 1)] 2)) .leaf) (some (.prow 45 18 Int r3.l encK)) .leaf))) 11) true))) (ifB (prB (p.t.to = 1)) (exB fun p2 : A_take2 => must (prB (([.ptr 0 0, .sy (.int 0 p.t.fr), .sy (.imm p.t.h 18 Int p.t.l encK), .sy (.int 0 p.t.c)], (Rm2n p.f.s1.l p.f.s1.com p.f.s1.sh 0 0 1), 4) = I_take2 p2)) (must (prB (pre_take2 p2)) (allB fun r2 : R_take2 => ifB (prB (po_take2 p2 r2)) (K (.tup []) (Fg2 ({ p.f with s1 := ⟨r2.l, r2.com, p2.sh⟩ } : F2) p2.me p2.c0 p2.c1 p.f.fly.length p.f.s0.l.length r2.l.length) 11) true))) (must (prB (False)) (true)))))) (by kernel_rfl) ?_
  dsimp only [pre_come2] at hpre
  obtain ⟨hinv, hm⟩ := hpre
  have hinv : FInv p.f.s0 _ _ p.f.fly := hinv
  have hs : p.f.s0.l.length ≤ 400 := hinv.short
  have hfew : p.f.fly.length ≤ 100 := hinv.few
  have f0 : p.f.c0 ≤ (p.f.s0.l.length : Int) ∧ 0 ≤ p.f.c0 ∧ p.f.s0.l.length ≤ p.f.s0.l.length := ⟨(hinv.each 0 _ _ rfl rfl).cl, (hinv.each 0 _ _ rfl rfl).c0, (hinv.each 0 _ _ rfl rfl).len⟩
  have f1 : p.f.c1 ≤ (p.f.s1.l.length : Int) ∧ 0 ≤ p.f.c1 ∧ p.f.s1.l.length ≤ p.f.s0.l.length := ⟨(hinv.each 1 _ _ rfl rfl).cl, (hinv.each 1 _ _ rfl rfl).c0, (hinv.each 1 _ _ rfl rfl).len⟩
  have hm2 := hm.flat hs
  simp only [List.length_cons, List.length_nil, List.length_singleton] at hm2
  refine ifP (fun hc1 => ?_) (fun hc1 => ?_)
  refine mustP (by simp only [InR] ; omega) ?_
  refine mustP (rfl) ?_
  refine callPR (⟨p.f.s0.l, p.f.s0.com, p.f.s0.sh, p.f.c0, p.f.c1, p.t.c, p.t.fr⟩ : A_ack2) rfl (by (try dsimp only [pre_ack2]) ; omega) fun r1 hi2 => ?_
  dsimp only [po_ack2] at hi2
  exact fin_come2 hK ⟨⟨⟨p.f.s0.l, r1.com, p.f.s0.sh⟩, p.f.s1, r1.c0, r1.c1, p.f.fly, p.f.cnt⟩⟩ (by dsimp only [po_come2] <;> (first | (exfalso ; omega) | exact ⟨tr_ack (maj := 2) (m := 2) hinv (by simp) (by simp) hm (by assumption) (by assumption), rfl⟩))
  refine ifP (fun hc3 => ?_) (fun hc3 => ?_)
  exfalso ; omega
  refine ifP (fun hc4 => ?_) (fun hc4 => ?_)
  refine callPR (⟨p.f.s1.l, p.f.s1.com, p.f.s1.sh, (0 : Int), (0 : Int), (1 : Int), p.t.fr, p.t.h, p.t.l, p.t.c⟩ : A_take2) rfl (by (try dsimp only [pre_take2]) ; omega) fun r2 hi5 => ?_
  dsimp only [po_take2] at hi5
  exact fin_come2 hK ⟨({ p.f with s1 := ⟨r2.l, r2.com, p.f.s1.sh⟩ } : F2)⟩ (by dsimp only [po_come2] <;> (first | (exfalso ; omega) | exact ⟨tr_take (i := 0) hinv rfl hm (by assumption) (by assumption), rfl⟩))
  refine mustP (by omega) ?_
  rfl
noncomputable def ec_come2 : SpecE := tstE (elB 1 2) (esOf I_come2 (spP pre_come2 out_come2)) ec_come1
theorem nc_come2 : NatE Try.prog 41 1 ec_come2 := tstE_ok (natE_pl (f := 41) (k := 1) (cfT_ok nat_step1_ok) ft_come2_ok (by rfl) (by rfl) vf_come2) nc_come1
noncomputable def nat_come2 := natC nat_step1 1 ec_come2 41 [(0, 4), (1, 15)]
theorem nat_come2_ok : NatsOk Try.prog nat_come2 := natC_ok nc_come2 nat_step1_ok
def ft_step2 : XF := ft_step1
theorem ft_step2_ok : chkF Try.prog 28 ft_step2 = true := ft_step1_ok
structure A_rest2 where
  f : F2
  k : Int
  x : Int
  nn : Int
  i : Int
  y : Int
  kk : Int
structure R_rest2 where
  f : F2
def po_rest2 (p : A_rest2) (r : R_rest2) : Prop := (FI2 r.f ∧ Fr2 p.f r.f) ∧ r.f.cnt = p.f.cnt
noncomputable def I_rest2 (p : A_rest2) : IL := ((.cons 5 (.sy (.int 0 p.kk)) (.cons 4 (.sy (.int 0 p.y)) (.cons 3 (.ptr 1 0) (.cons 0 (.ptr 0 0) .nil)))), (Fb2n p.f p.k p.x p.nn p.i), 12)
noncomputable def out_rest2 (p : A_rest2) (K : KC) : Bool := allB fun r : R_rest2 => ifB (prB (po_rest2 p r)) (K 0 .nil (Fd2n r.f) 11) true
def pre_rest2 (p : A_rest2) : Prop := FI2 p.f ∧ 0 ≤ p.f.cnt ∧ p.f.cnt ≤ 1000000 ∧ 0 ≤ p.y ∧ p.y < 2 ∧ p.kk = (p.f.fly.length : Int)
theorem fin_rest2 {p : A_rest2} {K : KC} (hK : out_rest2 p K = true) (r : R_rest2) (h : po_rest2 p r) : K 0 .nil (Fd2n r.f) 11 = true := ifB_use h (allB_ok hK r)
noncomputable def sp_rest2 (p : A_rest2) (K : KC) : Bool := must (prB (pre_rest2 p)) (out_rest2 p K)
noncomputable def lp_step2 : LpF := fun j S M nx K => (Bool.rec (false) (exB fun p : A_rest2 => must (prB ((S, M, nx) = I_rest2 p)) (sp_rest2 p K)) (Nat.beq j 0))
def bd_rest2 : XC := bd_rest1
theorem vb_rest2 (p : A_rest2) (K : KC) (hpre : pre_rest2 p) (hK : out_rest2 p K = true) : (codeX (cfT nat_come2) lp_step2 600 bd_rest2 (I_rest2 p).1 (I_rest2 p).2.1 (I_rest2 p).2.2 K) = true := by
  refine Eq.trans (b := (let y0 : Int := (Int.tmod ((Int.tmod p.i p.kk) + p.kk) p.kk); ifB (prB (p.k = (7 : Int))) (ifB (prB (p.y = 0)) (K 0 .nil (Fd2n ({ p.f with s0 := ({ p.f.s0 with sh := true = true } : Rl) } : F2)) 11) (ifB (prB (p.y = 1)) (K 0 .nil (Fd2n ({ p.f with s1 := ({ p.f.s1 with sh := true = true } : Rl) } : F2)) 11) (must (prB (False)) (true)))) (ifB (prB ((3 : Int) ≤ p.k)) (ifB (prB ((0 : Int) < p.kk)) (must (prB (p.kk ≠ 0)) (must (prB (InR 0 ((Int.tmod p.i p.kk) + p.kk))) (must (prB (p.kk ≠ 0)) (must (prB (0 ≤ y0 ∧ y0 < (p.f.fly.length : Int))) (must (prB ((y0.toNat) < p.f.fly.length)) (allB fun x1 : Told => ifB (prB (p.f.fly[y0.toNat]? = some x1)) (ifB (prB (¬ p.k = (5 : Int))) (must (prB (p.f.fly.length = p.f.fly.length ∧ 0 ≤ (0 : Int) ∧ (0 : Int) ≤ y0 ∧ y0 ≤ (p.f.fly.length : Int))) (must (prB (InR 0 (y0 + (1 : Int)))) (must (prB (p.f.fly.length = p.f.fly.length ∧ 0 ≤ (y0 + (1 : Int)) ∧ (y0 + (1 : Int)) ≤ (p.f.fly.length : Int) ∧ (p.f.fly.length : Int) ≤ (p.f.fly.length : Int))) (must (prB (((.prow 3 p.f.fly.length) : SY) = (.prow 3 p.f.fly.length))) (must (prB (p.f.fly.length = p.f.fly.length ∧ 0 ≤ (0 : Int) ∧ (0 : Int) ≤ y0 ∧ y0 ≤ (p.f.fly.length : Int))) (must (prB (((.psub 3 4 0 ((y0.toNat) - 0)) : SY) = (.psub 3 4 0 ((y0.toNat) - 0)))) (must (prB (((.prow 3 p.f.fly.length) : SY) = (.prow 3 p.f.fly.length))) (must (prB (p.f.fly.length = p.f.fly.length ∧ 0 ≤ (y0 + (1 : Int)) ∧ (y0 + (1 : Int)) ≤ (p.f.fly.length : Int) ∧ (p.f.fly.length : Int) ≤ (p.f.fly.length : Int))) (must (prB (((.psub 3 4 ((y0 + (1 : Int)).toNat) (p.f.fly.length - ((y0 + (1 : Int)).toNat))) : SY) = (.psub 3 4 ((y0 + (1 : Int)).toNat) (p.f.fly.length - ((y0 + (1 : Int)).toNat))))) (must (prB (0 + ((y0.toNat) - 0) ≤ p.f.fly.length)) (ifB (prB (((p.f.fly.drop 0).take ((y0.toNat) - 0)) = [])) (must (prB (((.prow 3 p.f.fly.length) : SY) = (.prow 3 p.f.fly.length))) (must (prB (p.f.fly.length = p.f.fly.length ∧ 0 ≤ (y0 + (1 : Int)) ∧ (y0 + (1 : Int)) ≤ (p.f.fly.length : Int) ∧ (p.f.fly.length : Int) ≤ (p.f.fly.length : Int))) (must (prB (((.psub 3 4 ((y0 + (1 : Int)).toNat) (p.f.fly.length - ((y0 + (1 : Int)).toNat))) : SY) = (.psub 3 4 ((y0 + (1 : Int)).toNat) (p.f.fly.length - ((y0 + (1 : Int)).toNat))))) (must (prB (((y0 + (1 : Int)).toNat) + (p.f.fly.length - ((y0 + (1 : Int)).toNat)) ≤ p.f.fly.length)) (ifB (prB (((p.f.fly.drop ((y0 + (1 : Int)).toNat)).take (p.f.fly.length - ((y0 + (1 : Int)).toNat))) = [])) (must (prB ((.sl 13 0 0 (.ex 0) : AV) = (.sl 13 0 0 (.ex 0) : AV))) (ifB (prB (¬ p.k = (6 : Int))) (exB fun p1 : A_come2 => must (prB (([.ptr 0 0, .agg [.sy (.int 0 x1.to), .sy (.int 0 x1.fr), .sy (.int 0 x1.c), .sy (.imm x1.h 18 Int x1.l encK)]], (Fd2 ({ p.f with fly := ([] : List Told) } : F2) 0 p.f.s0.l.length p.f.s1.l.length), 11) = I_come2 p1)) (must (prB (pre_come2 p1)) (allB fun r1 : R_come2 => ifB (prB (po_come2 p1 r1)) (K 0 .nil (Fd2n r1.f) 11) true))) (K 0 .nil (Fd2 ({ p.f with fly := ([] : List Told) } : F2) 0 p.f.s0.l.length p.f.s1.l.length) 11))) (must (prB (limP 48 ((p.f.fly.drop ((y0 + (1 : Int)).toNat)).take (p.f.fly.length - ((y0 + (1 : Int)).toNat))).length)) (ifB (prB (¬ p.k = (6 : Int))) (exB fun p2 : A_come2 => must (prB (([.ptr 0 0, .agg [.sy (.int 0 x1.to), .sy (.int 0 x1.fr), .sy (.int 0 x1.c), .sy (.imm x1.h 18 Int x1.l encK)]], (Fd2 ({ p.f with fly := (p.f.fly.drop ((y0 + (1 : Int)).toNat)).take (p.f.fly.length - ((y0 + (1 : Int)).toNat)) } : F2) (((p.f.fly.drop ((y0 + (1 : Int)).toNat)).take (p.f.fly.length - ((y0 + (1 : Int)).toNat))).length) p.f.s0.l.length p.f.s1.l.length), 11) = I_come2 p2)) (must (prB (pre_come2 p2)) (allB fun r2 : R_come2 => ifB (prB (po_come2 p2 r2)) (K 0 .nil (Fd2n r2.f) 11) true))) (K 0 .nil (Fd2 ({ p.f with fly := (p.f.fly.drop ((y0 + (1 : Int)).toNat)).take (p.f.fly.length - ((y0 + (1 : Int)).toNat)) } : F2) (((p.f.fly.drop ((y0 + (1 : Int)).toNat)).take (p.f.fly.length - ((y0 + (1 : Int)).toNat))).length) p.f.s0.l.length p.f.s1.l.length) 11)))))))) (must (prB (limP 48 ((p.f.fly.drop 0).take ((y0.toNat) - 0)).length)) (must (prB (((.prow 3 p.f.fly.length) : SY) = (.prow 3 p.f.fly.length))) (must (prB (p.f.fly.length = p.f.fly.length ∧ 0 ≤ (y0 + (1 : Int)) ∧ (y0 + (1 : Int)) ≤ (p.f.fly.length : Int) ∧ (p.f.fly.length : Int) ≤ (p.f.fly.length : Int))) (must (prB (((.psub 3 4 ((y0 + (1 : Int)).toNat) (p.f.fly.length - ((y0 + (1 : Int)).toNat))) : SY) = (.psub 3 4 ((y0 + (1 : Int)).toNat) (p.f.fly.length - ((y0 + (1 : Int)).toNat))))) (must (prB (((y0 + (1 : Int)).toNat) + (p.f.fly.length - ((y0 + (1 : Int)).toNat)) ≤ p.f.fly.length)) (must (prB ((((p.f.fly.drop 0).take ((y0.toNat) - 0)).length) = ((p.f.fly.drop 0).take ((y0.toNat) - 0)).length)) (ifB (prB (((p.f.fly.drop ((y0 + (1 : Int)).toNat)).take (p.f.fly.length - ((y0 + (1 : Int)).toNat))) = [])) (ifB (prB (¬ p.k = (6 : Int))) (exB fun p4 : A_come2 => must (prB (([.ptr 0 0, .agg [.sy (.int 0 x1.to), .sy (.int 0 x1.fr), .sy (.int 0 x1.c), .sy (.imm x1.h 18 Int x1.l encK)]], (Fd2 ({ p.f with fly := (p.f.fly.drop 0).take ((y0.toNat) - 0) } : F2) (((p.f.fly.drop 0).take ((y0.toNat) - 0)).length) p.f.s0.l.length p.f.s1.l.length), 11) = I_come2 p4)) (must (prB (pre_come2 p4)) (allB fun r4 : R_come2 => ifB (prB (po_come2 p4 r4)) (K 0 .nil (Fd2n r4.f) 11) true))) (K 0 .nil (Fd2 ({ p.f with fly := (p.f.fly.drop 0).take ((y0.toNat) - 0) } : F2) (((p.f.fly.drop 0).take ((y0.toNat) - 0)).length) p.f.s0.l.length p.f.s1.l.length) 11)) (exB fun m1 : List Told => must (prB (rowsR (m1.map encT) (((p.f.fly.drop ((y0 + (1 : Int)).toNat)).take (p.f.fly.length - ((y0 + (1 : Int)).toNat))).map encT))) (must (prB (limP 48 (((p.f.fly.drop 0).take ((y0.toNat) - 0)).length + m1.length))) (ifB (prB (¬ p.k = (6 : Int))) (exB fun p3 : A_come2 => must (prB (([.ptr 0 0, .agg [.sy (.int 0 x1.to), .sy (.int 0 x1.fr), .sy (.int 0 x1.c), .sy (.imm x1.h 18 Int x1.l encK)]], (Fd2 ({ p.f with fly := ((p.f.fly.drop 0).take ((y0.toNat) - 0)) ++ m1 } : F2) ((((p.f.fly.drop 0).take ((y0.toNat) - 0)) ++ m1).length) p.f.s0.l.length p.f.s1.l.length), 11) = I_come2 p3)) (must (prB (pre_come2 p3)) (allB fun r3 : R_come2 => ifB (prB (po_come2 p3 r3)) (K 0 .nil (Fd2n r3.f) 11) true))) (K 0 .nil (Fd2 ({ p.f with fly := ((p.f.fly.drop 0).take ((y0.toNat) - 0)) ++ m1 } : F2) ((((p.f.fly.drop 0).take ((y0.toNat) - 0)) ++ m1).length) p.f.s0.l.length p.f.s1.l.length) 11)))))))))))))))))))))) (ifB (prB (¬ p.k = (6 : Int))) (exB fun p5 : A_come2 => must (prB (([.ptr 0 0, .agg [.sy (.int 0 x1.to), .sy (.int 0 x1.fr), .sy (.int 0 x1.c), .sy (.imm x1.h 18 Int x1.l encK)]], (Fd2n p.f), 11) = I_come2 p5)) (must (prB (pre_come2 p5)) (allB fun r5 : R_come2 => ifB (prB (po_come2 p5 r5)) (K 0 .nil (Fd2n r5.f) 11) true))) (K 0 .nil (Fd2n p.f) 11))) true)))))) (K 0 .nil (Fd2n p.f) 11)) (K 0 .nil (Fd2n p.f) 11)))) (by kernel_rfl) ?_
  dsimp only [pre_rest2] at hpre
  obtain ⟨hinv, k1, k2, k3, k4, k5⟩ := hpre
  have hinv : FInv p.f.s0 _ _ p.f.fly := hinv
  have hs : p.f.s0.l.length ≤ 400 := hinv.short
  have hfew : p.f.fly.length ≤ 100 := hinv.few
  have f0 : p.f.c0 ≤ (p.f.s0.l.length : Int) ∧ 0 ≤ p.f.c0 ∧ p.f.s0.l.length ≤ p.f.s0.l.length := ⟨(hinv.each 0 _ _ rfl rfl).cl, (hinv.each 0 _ _ rfl rfl).c0, (hinv.each 0 _ _ rfl rfl).len⟩
  have f1 : p.f.c1 ≤ (p.f.s1.l.length : Int) ∧ 0 ≤ p.f.c1 ∧ p.f.s1.l.length ≤ p.f.s0.l.length := ⟨(hinv.each 1 _ _ rfl rfl).cl, (hinv.each 1 _ _ rfl rfl).c0, (hinv.each 1 _ _ rfl rfl).len⟩
  have t6 := tmk p.kk p.i
  have t7 := tmk2 p.kk p.i
  refine ifP (fun hc1 => ?_) (fun hc1 => ?_)
  refine ifP (fun hc2 => ?_) (fun hc2 => ?_)
  exact fin_rest2 hK ⟨({ p.f with s0 := ({ p.f.s0 with sh := true = true } : Rl) } : F2)⟩ (by dsimp only [po_rest2] <;> (first | (exfalso ; omega) | exact ⟨by exact ⟨tr_shut hinv _, frz_shut rfl⟩, by first | rfl | exact hi0.2⟩))
  refine ifP (fun hc3 => ?_) (fun hc3 => ?_)
  exact fin_rest2 hK ⟨({ p.f with s1 := ({ p.f.s1 with sh := true = true } : Rl) } : F2)⟩ (by dsimp only [po_rest2] <;> (first | (exfalso ; omega) | exact ⟨by exact ⟨tr_shutO (i := 0) hinv rfl _, frz_other (i := 0) rfl fun _ => ⟨rfl, rfl⟩⟩, by first | rfl | exact hi0.2⟩))
  refine mustP (by omega) ?_
  rfl
  refine ifP (fun hc4 => ?_) (fun hc4 => ?_)
  refine ifP (fun hc5 => ?_) (fun hc5 => ?_)
  refine mustP (by omega) ?_
  refine mustP (by simp only [InR] ; omega) ?_
  refine mustP (by omega) ?_
  refine mustP (by first | omega | (constructor <;> omega)) ?_
  refine mustP (by omega) ?_
  refine allB_mk (fun x1 => ?_)
  refine ifP (fun hi6 => ?_) (fun _ => rfl)
  have hm := hinv.msgs x1 (List.mem_of_getElem? (by assumption))
  refine ifP (fun hc7 => ?_) (fun hc7 => ?_)
  refine mustP (by first | omega | (simp ; omega)) ?_
  refine mustP (by simp only [InR] ; omega) ?_
  refine mustP (by first | omega | (simp ; omega)) ?_
  refine mustP (rfl) ?_
  refine mustP (by first | omega | (simp ; omega)) ?_
  refine mustP (rfl) ?_
  refine mustP (rfl) ?_
  refine mustP (by first | omega | (simp ; omega)) ?_
  refine mustP (rfl) ?_
  refine mustP (by (first | omega | (simp [limP] <;> omega))) ?_
  refine ifP (fun hc8 => ?_) (fun hc8 => ?_)
  have hc8l : (((p.f.fly.drop 0).take (((Int.tmod ((Int.tmod p.i p.kk) + p.kk) p.kk).toNat) - 0))).length = 0 := (by rw [hc8] ; rfl)
  refine mustP (rfl) ?_
  refine mustP (by first | omega | (simp ; omega)) ?_
  refine mustP (rfl) ?_
  refine mustP (by (first | omega | (simp [limP] <;> omega))) ?_
  refine ifP (fun hc9 => ?_) (fun hc9 => ?_)
  have hc9l : (((p.f.fly.drop (((Int.tmod ((Int.tmod p.i p.kk) + p.kk) p.kk) + (1 : Int)).toNat)).take (p.f.fly.length - (((Int.tmod ((Int.tmod p.i p.kk) + p.kk) p.kk) + (1 : Int)).toNat)))).length = 0 := (by rw [hc9] ; rfl)
  refine mustP (rfl) ?_
  refine ifP (fun hc10 => ?_) (fun hc10 => ?_)
  refine callPR (⟨({ p.f with fly := ([] : List Told) } : F2), ⟨x1.to, x1.fr, x1.c, x1.h, x1.l⟩⟩ : A_come2) rfl (by (try dsimp only [pre_come2]) ; exact ⟨(hinv.sub (fun _ h => by simp at h) (by simp)), hm⟩) fun r1 hi11 => ?_
  dsimp only [po_come2] at hi11
  exact fin_rest2 hK ⟨r1.f⟩ (by dsimp only [po_rest2] <;> (first | (exfalso ; omega) | exact ⟨by exact hi11.1, by first | rfl | exact hi11.2⟩))
  exact fin_rest2 hK ⟨({ p.f with fly := ([] : List Told) } : F2)⟩ (by dsimp only [po_rest2] <;> (first | (exfalso ; omega) | exact ⟨by exact ⟨(hinv.sub (fun _ h => by simp at h) (by simp)), Frz.refl _⟩, by first | rfl | exact hi6.2⟩))
  have hc9l : 0 < (((p.f.fly.drop (((Int.tmod ((Int.tmod p.i p.kk) + p.kk) p.kk) + (1 : Int)).toNat)).take (p.f.fly.length - (((Int.tmod ((Int.tmod p.i p.kk) + p.kk) p.kk) + (1 : Int)).toNat)))).length := List.length_pos_iff.2 hc9
  refine mustP (by simp [limP] ; omega) ?_
  refine ifP (fun hc12 => ?_) (fun hc12 => ?_)
  refine callPR (⟨({ p.f with fly := (p.f.fly.drop (((Int.tmod ((Int.tmod p.i p.kk) + p.kk) p.kk) + (1 : Int)).toNat)).take (p.f.fly.length - (((Int.tmod ((Int.tmod p.i p.kk) + p.kk) p.kk) + (1 : Int)).toNat)) } : F2), ⟨x1.to, x1.fr, x1.c, x1.h, x1.l⟩⟩ : A_come2) rfl (by (try dsimp only [pre_come2]) ; exact ⟨(hinv.sub sub_one (by simp ; omega)), hm⟩) fun r2 hi13 => ?_
  dsimp only [po_come2] at hi13
  exact fin_rest2 hK ⟨r2.f⟩ (by dsimp only [po_rest2] <;> (first | (exfalso ; omega) | exact ⟨by exact hi13.1, by first | rfl | exact hi13.2⟩))
  exact fin_rest2 hK ⟨({ p.f with fly := (p.f.fly.drop (((Int.tmod ((Int.tmod p.i p.kk) + p.kk) p.kk) + (1 : Int)).toNat)).take (p.f.fly.length - (((Int.tmod ((Int.tmod p.i p.kk) + p.kk) p.kk) + (1 : Int)).toNat)) } : F2)⟩ (by dsimp only [po_rest2] <;> (first | (exfalso ; omega) | exact ⟨by exact ⟨(hinv.sub sub_one (by simp ; omega)), Frz.refl _⟩, by first | rfl | exact hi6.2⟩))
  have hc8l : 0 < (((p.f.fly.drop 0).take (((Int.tmod ((Int.tmod p.i p.kk) + p.kk) p.kk).toNat) - 0))).length := List.length_pos_iff.2 hc8
  refine mustP (by simp [limP] ; omega) ?_
  refine mustP (rfl) ?_
  refine mustP (by first | omega | (simp ; omega)) ?_
  refine mustP (rfl) ?_
  refine mustP (by (first | omega | (simp [limP] <;> omega))) ?_
  refine mustP (rfl) ?_
  refine ifP (fun hc14 => ?_) (fun hc14 => ?_)
  have hc14l : (((p.f.fly.drop (((Int.tmod ((Int.tmod p.i p.kk) + p.kk) p.kk) + (1 : Int)).toNat)).take (p.f.fly.length - (((Int.tmod ((Int.tmod p.i p.kk) + p.kk) p.kk) + (1 : Int)).toNat)))).length = 0 := (by rw [hc14] ; rfl)
  refine ifP (fun hc15 => ?_) (fun hc15 => ?_)
  refine callPR (⟨({ p.f with fly := (p.f.fly.drop 0).take (((Int.tmod ((Int.tmod p.i p.kk) + p.kk) p.kk).toNat) - 0) } : F2), ⟨x1.to, x1.fr, x1.c, x1.h, x1.l⟩⟩ : A_come2) rfl (by (try dsimp only [pre_come2]) ; exact ⟨(hinv.sub sub_one (by simp ; omega)), hm⟩) fun r4 hi16 => ?_
  dsimp only [po_come2] at hi16
  exact fin_rest2 hK ⟨r4.f⟩ (by dsimp only [po_rest2] <;> (first | (exfalso ; omega) | exact ⟨by exact hi16.1, by first | rfl | exact hi16.2⟩))
  exact fin_rest2 hK ⟨({ p.f with fly := (p.f.fly.drop 0).take (((Int.tmod ((Int.tmod p.i p.kk) + p.kk) p.kk).toNat) - 0) } : F2)⟩ (by dsimp only [po_rest2] <;> (first | (exfalso ; omega) | exact ⟨by exact ⟨(hinv.sub sub_one (by simp ; omega)), Frz.refl _⟩, by first | rfl | exact hi6.2⟩))
  have hc14l : 0 < (((p.f.fly.drop (((Int.tmod ((Int.tmod p.i p.kk) + p.kk) p.kk) + (1 : Int)).toNat)).take (p.f.fly.length - (((Int.tmod ((Int.tmod p.i p.kk) + p.kk) p.kk) + (1 : Int)).toNat)))).length := List.length_pos_iff.2 hc14
  refine exB_mk ((p.f.fly.drop (((Int.tmod ((Int.tmod p.i p.kk) + p.kk) p.kk) + (1 : Int)).toNat)).take (p.f.fly.length - (((Int.tmod ((Int.tmod p.i p.kk) + p.kk) p.kk) + (1 : Int)).toNat))) ?_
  refine mustP (show rowsR (((p.f.fly.drop (((Int.tmod ((Int.tmod p.i p.kk) + p.kk) p.kk) + (1 : Int)).toNat)).take (p.f.fly.length - (((Int.tmod ((Int.tmod p.i p.kk) + p.kk) p.kk) + (1 : Int)).toNat))).map encT) (((p.f.fly.drop (((Int.tmod ((Int.tmod p.i p.kk) + p.kk) p.kk) + (1 : Int)).toNat)).take (p.f.fly.length - (((Int.tmod ((Int.tmod p.i p.kk) + p.kk) p.kk) + (1 : Int)).toNat))).map encT) from rowsR_refl _) ?_
  refine mustP (by simp [limP] ; omega) ?_
  refine ifP (fun hc17 => ?_) (fun hc17 => ?_)
  refine callPR (⟨({ p.f with fly := ((p.f.fly.drop 0).take (((Int.tmod ((Int.tmod p.i p.kk) + p.kk) p.kk).toNat) - 0)) ++ ((p.f.fly.drop (((Int.tmod ((Int.tmod p.i p.kk) + p.kk) p.kk) + (1 : Int)).toNat)).take (p.f.fly.length - (((Int.tmod ((Int.tmod p.i p.kk) + p.kk) p.kk) + (1 : Int)).toNat))) } : F2), ⟨x1.to, x1.fr, x1.c, x1.h, x1.l⟩⟩ : A_come2) rfl (by (try dsimp only [pre_come2]) ; exact ⟨(hinv.sub sub_cut (by simp ; omega)), hm⟩) fun r3 hi18 => ?_
  dsimp only [po_come2] at hi18
  exact fin_rest2 hK ⟨r3.f⟩ (by dsimp only [po_rest2] <;> (first | (exfalso ; omega) | exact ⟨by exact hi18.1, by first | rfl | exact hi18.2⟩))
  exact fin_rest2 hK ⟨({ p.f with fly := ((p.f.fly.drop 0).take (((Int.tmod ((Int.tmod p.i p.kk) + p.kk) p.kk).toNat) - 0)) ++ ((p.f.fly.drop (((Int.tmod ((Int.tmod p.i p.kk) + p.kk) p.kk) + (1 : Int)).toNat)).take (p.f.fly.length - (((Int.tmod ((Int.tmod p.i p.kk) + p.kk) p.kk) + (1 : Int)).toNat))) } : F2)⟩ (by dsimp only [po_rest2] <;> (first | (exfalso ; omega) | exact ⟨by exact ⟨(hinv.sub sub_cut (by simp ; omega)), Frz.refl _⟩, by first | rfl | exact hi6.2⟩))
  refine ifP (fun hc19 => ?_) (fun hc19 => ?_)
  refine callPR (⟨p.f, ⟨x1.to, x1.fr, x1.c, x1.h, x1.l⟩⟩ : A_come2) rfl (by (try dsimp only [pre_come2]) ; exact ⟨hinv, hm⟩) fun r5 hi20 => ?_
  dsimp only [po_come2] at hi20
  exact fin_rest2 hK ⟨r5.f⟩ (by dsimp only [po_rest2] <;> (first | (exfalso ; omega) | exact ⟨by exact hi20.1, by first | rfl | exact hi20.2⟩))
  exact fin_rest2 hK ⟨p.f⟩ (by dsimp only [po_rest2] <;> (first | (exfalso ; omega) | exact ⟨by exact ⟨hinv, Frz.refl _⟩, by first | rfl | exact hi6.2⟩))
  exact fin_rest2 hK ⟨p.f⟩ (by dsimp only [po_rest2] <;> (first | (exfalso ; omega) | exact ⟨by exact ⟨hinv, Frz.refl _⟩, by first | rfl | exact hi0.2⟩))
  exact fin_rest2 hK ⟨p.f⟩ (by dsimp only [po_rest2] <;> (first | (exfalso ; omega) | exact ⟨by exact ⟨hinv, Frz.refl _⟩, by first | rfl | exact hi0.2⟩))
theorem lo_rest2 : LpOk Try.prog 203 1 lp_step2 false 0 bd_rest2 := by
  refine sp_of (lf := 600) tb_mix (cfT_ok nat_come2_ok) (by rfl) (fun b j x h => by cases h) (fun S M nx K h => ?_)
  obtain ⟨p, h⟩ := exB_ok h
  obtain ⟨e, h9⟩ := mustP_ok h
  clear h
  have e1 : S = (I_rest2 p).1 := congrArg Prod.fst e
  have e2 : M = (I_rest2 p).2.1 := congrArg (fun x => x.2.1) e
  have e3 : nx = (I_rest2 p).2.2 := congrArg (fun x => x.2.2) e
  subst e1; subst e2; subst e3
  exact vb_rest2 p K (mustP_ok h9).1 (mustP_ok h9).2
structure A_step2 where
  f : F2
  k : Int
  x : Int
  nn : Int
  i : Int
structure R_step2 where
  f : F2
def po_step2 (p : A_step2) (r : R_step2) : Prop := (FI2 r.f ∧ Fr2 p.f r.f) ∧ 0 ≤ r.f.cnt ∧ r.f.cnt ≤ p.f.cnt + 1
noncomputable def I_step2 (p : A_step2) : IE := ([.ptr 0 0, .agg [.sy (.int 0 p.k), .sy (.int 0 p.x), .sy (.int 0 p.nn), .sy (.int 0 p.i)]], (Fd2n p.f), 11)
noncomputable def out_step2 (p : A_step2) (K : KE) : Bool := allB fun r : R_step2 => ifB (prB (po_step2 p r)) (K (.tup []) (Fd2n r.f) 11) true
def pre_step2 (p : A_step2) : Prop := FI2 p.f ∧ 0 ≤ p.f.cnt ∧ p.f.cnt ≤ 1000000
theorem fin_step2 {p : A_step2} {K : KE} (hK : out_step2 p K = true) (r : R_step2) (h : po_step2 p r) : K (.tup []) (Fd2n r.f) 11 = true := ifB_use h (allB_ok hK r)
theorem vf_step2 (p : A_step2) (K : KE) (hpre : pre_step2 p) (hK : out_step2 p K = true) : (funE 1 (cfT nat_come2) lp_step2 600 ft_step2 (I_step2 p).1 (I_step2 p).2.1 (I_step2 p).2.2 K) = true := by
  refine Eq.trans (b := (let y0 : Int := (Int.tmod ((Int.tmod p.x (2 : Int)) + (2 : Int)) (2 : Int)); let y1 : Int := ((Int.tmod p.nn (3 : Int)) + (3 : Int)); must (prB ((2 : Int) ≠ 0)) (must (prB (InR 0 ((Int.tmod p.x (2 : Int)) + (2 : Int)))) (must (prB ((2 : Int) ≠ 0)) (ifB (prB (p.k = (0 : Int))) (must (prB (InR 0 (p.f.cnt + (1 : Int)))) (must (prB ((16 : Int) ≠ 0)) (must (prB (InR 1 (Int.tmod (p.f.cnt + (1 : Int)) (16 : Int)))) (exB fun p1 : A_add2 => must (prB (([.ptr 0 0, .agg [.int 1 (.ofNat 2), .int 1 (.ofNat 0), .int 2 (.ofNat 0), .int 3 (.ofNat 0), .int 1 (.ofNat 0), .int 1 (.ofNat 0), .int 1 (.ofNat 0), .int 1 (.ofNat 0), .int 1 (.ofNat 0), .int 1 (.ofNat 0), .int 1 (.ofNat 0), .int 3 (.ofNat 0), .nilS, .int 1 (.ofNat 0), .str [], .nilS, .sy (.int 1 (Int.tmod (p.f.cnt + (1 : Int)) (16 : Int))), .int 2 (.ofNat 1)]], (Ro2n p.f.s0.l p.f.s0.com p.f.s0.sh p.f.c0 p.f.c1), 4) = I_add2 p1)) (must (prB (pre_add2 p1)) (allB fun r1 : R_add2 => ifB (prB (po_add2 p1 r1)) (K (.tup []) (Fd2n ⟨⟨r1.l, r1.com, p1.sh⟩, p.f.s1, r1.c0, p1.c1, p.f.fly, p.f.cnt + (1 : Int)⟩) 11) true)))))) (ifB (prB (p.k = (1 : Int))) (ifB (prB ((0 : Int) < y0)) (ifB (prB ((p.f.fly.length : Int) < (100 : Int))) (must (prB ((3 : Int) ≠ 0)) (must (prB (InR 0 y1)) (must (prB ((3 : Int) ≠ 0)) (must (prB (InR 0 ((1 : Int) + (Int.tmod y1 (3 : Int))))) (must (prB (InR 1 y0)) (must (prB (((.int 0 p.nn) : SY) = (.int 0 p.nn))) (exB fun p2 : A_since2 => must (prB (([.ptr 0 0, .agg [.sy (.int 1 y0), .int 2 (.ofNat 1)], .sy (.int 0 ((1 : Int) + (Int.tmod y1 (3 : Int))))], (Ro2n p.f.s0.l p.f.s0.com p.f.s0.sh p.f.c0 p.f.c1), 4) = I_since2 p2)) (must (prB (pre_since2 p2)) (allB fun r2 : R_since2 => ifB (prB (po_since2 p2 r2)) (must (prB (((.prow 2 p.f.fly.length) : SY) = (.prow 2 p.f.fly.length))) (must (prB (((.prow 2 p.f.fly.length) : SY) = (.prow 2 p.f.fly.length))) (must (prB (p.f.fly.length = p.f.fly.length)) (exB fun m1 : List Told => must (prB (rowsR (m1.map encT) [[.sint 0 y0, .sint 0 r2.fr, .sint 0 p2.com, .imm r2.h 18 Int r2.o encK]])) (must (prB (limP 48 (p.f.fly.length + m1.length))) (K (.tup []) (Fd2 ⟨⟨p2.l, p2.com, p2.sh⟩, p.f.s1, p2.c0, p2.c1, p.f.fly ++ m1, p.f.cnt⟩ ((p.f.fly ++ m1).length) p2.l.length p.f.s1.l.length) 11)))))) true))))))))) (ifB (prB (p.k = (2 : Int))) (ifB (prB ((0 : Int) < y0)) (ifB (prB ((p.f.fly.length : Int) < (100 : Int))) (ifB (prB (y0 = 0)) (must (prB (((.prow 2 p.f.fly.length) : SY) = (.prow 2 p.f.fly.length))) (must (prB (((.prow 2 p.f.fly.length) : SY) = (.prow 2 p.f.fly.length))) (must (prB (p.f.fly.length = p.f.fly.length)) (exB fun m3 : List Told => must (prB (rowsR (m3.map encT) [[.int 0 (.ofNat 0), .sint 0 (p.f.s0.l.length : Int), .sint 0 y0, .nilS]])) (must (prB (limP 48 (p.f.fly.length + m3.length))) (K (.tup []) (Fd2 ({ p.f with fly := p.f.fly ++ m3 } : F2) ((p.f.fly ++ m3).length) p.f.s0.l.length p.f.s1.l.length) 11)))))) (ifB (prB (y0 = 1)) (must (prB (((.prow 2 p.f.fly.length) : SY) = (.prow 2 p.f.fly.length))) (must (prB (((.prow 2 p.f.fly.length) : SY) = (.prow 2 p.f.fly.length))) (must (prB (p.f.fly.length = p.f.fly.length)) (exB fun m2 : List Told => must (prB (rowsR (m2.map encT) [[.int 0 (.ofNat 0), .sint 0 (p.f.s1.l.length : Int), .sint 0 y0, .nilS]])) (must (prB (limP 48 (p.f.fly.length + m2.length))) (K (.tup []) (Fd2 ({ p.f with fly := p.f.fly ++ m2 } : F2) ((p.f.fly ++ m2).length) p.f.s0.l.length p.f.s1.l.length) 11)))))) (must (prB (False)) (true)))) (exB fun p3 : A_rest2 => must (prB (((.cons 5 (.sy (.int 0 (p.f.fly.length : Int))) (.cons 4 (.sy (.int 0 y0)) (.cons 3 (.ptr 1 0) (.cons 0 (.ptr 0 0) .nil)))), (Fb2n p.f p.k p.x p.nn p.i), 12) = I_rest2 p3)) (must (prB (pre_rest2 p3)) (allB fun r3 : R_rest2 => ifB (prB (po_rest2 p3 r3)) (K (.tup []) (Fd2n r3.f) 11) true)))) (exB fun p4 : A_rest2 => must (prB (((.cons 5 (.sy (.int 0 (p.f.fly.length : Int))) (.cons 4 (.sy (.int 0 y0)) (.cons 3 (.ptr 1 0) (.cons 0 (.ptr 0 0) .nil)))), (Fb2n p.f p.k p.x p.nn p.i), 12) = I_rest2 p4)) (must (prB (pre_rest2 p4)) (allB fun r4 : R_rest2 => ifB (prB (po_rest2 p4 r4)) (K (.tup []) (Fd2n r4.f) 11) true)))) (exB fun p5 : A_rest2 => must (prB (((.cons 5 (.sy (.int 0 (p.f.fly.length : Int))) (.cons 4 (.sy (.int 0 y0)) (.cons 3 (.ptr 1 0) (.cons 0 (.ptr 0 0) .nil)))), (Fb2n p.f p.k p.x p.nn p.i), 12) = I_rest2 p5)) (must (prB (pre_rest2 p5)) (allB fun r5 : R_rest2 => ifB (prB (po_rest2 p5 r5)) (K (.tup []) (Fd2n r5.f) 11) true))))) (ifB (prB (p.k = (2 : Int))) (ifB (prB ((0 : Int) < y0)) (ifB (prB ((p.f.fly.length : Int) < (100 : Int))) (ifB (prB (y0 = 0)) (must (prB (((.prow 2 p.f.fly.length) : SY) = (.prow 2 p.f.fly.length))) (must (prB (((.prow 2 p.f.fly.length) : SY) = (.prow 2 p.f.fly.length))) (must (prB (p.f.fly.length = p.f.fly.length)) (exB fun m5 : List Told => must (prB (rowsR (m5.map encT) [[.int 0 (.ofNat 0), .sint 0 (p.f.s0.l.length : Int), .sint 0 y0, .nilS]])) (must (prB (limP 48 (p.f.fly.length + m5.length))) (K (.tup []) (Fd2 ({ p.f with fly := p.f.fly ++ m5 } : F2) ((p.f.fly ++ m5).length) p.f.s0.l.length p.f.s1.l.length) 11)))))) (ifB (prB (y0 = 1)) (must (prB (((.prow 2 p.f.fly.length) : SY) = (.prow 2 p.f.fly.length))) (must (prB (((.prow 2 p.f.fly.length) : SY) = (.prow 2 p.f.fly.length))) (must (prB (p.f.fly.length = p.f.fly.length)) (exB fun m4 : List Told => must (prB (rowsR (m4.map encT) [[.int 0 (.ofNat 0), .sint 0 (p.f.s1.l.length : Int), .sint 0 y0, .nilS]])) (must (prB (limP 48 (p.f.fly.length + m4.length))) (K (.tup []) (Fd2 ({ p.f with fly := p.f.fly ++ m4 } : F2) ((p.f.fly ++ m4).length) p.f.s0.l.length p.f.s1.l.length) 11)))))) (must (prB (False)) (true)))) (exB fun p6 : A_rest2 => must (prB (((.cons 5 (.sy (.int 0 (p.f.fly.length : Int))) (.cons 4 (.sy (.int 0 y0)) (.cons 3 (.ptr 1 0) (.cons 0 (.ptr 0 0) .nil)))), (Fb2n p.f p.k p.x p.nn p.i), 12) = I_rest2 p6)) (must (prB (pre_rest2 p6)) (allB fun r6 : R_rest2 => ifB (prB (po_rest2 p6 r6)) (K (.tup []) (Fd2n r6.f) 11) true)))) (exB fun p7 : A_rest2 => must (prB (((.cons 5 (.sy (.int 0 (p.f.fly.length : Int))) (.cons 4 (.sy (.int 0 y0)) (.cons 3 (.ptr 1 0) (.cons 0 (.ptr 0 0) .nil)))), (Fb2n p.f p.k p.x p.nn p.i), 12) = I_rest2 p7)) (must (prB (pre_rest2 p7)) (allB fun r7 : R_rest2 => ifB (prB (po_rest2 p7 r7)) (K (.tup []) (Fd2n r7.f) 11) true)))) (exB fun p8 : A_rest2 => must (prB (((.cons 5 (.sy (.int 0 (p.f.fly.length : Int))) (.cons 4 (.sy (.int 0 y0)) (.cons 3 (.ptr 1 0) (.cons 0 (.ptr 0 0) .nil)))), (Fb2n p.f p.k p.x p.nn p.i), 12) = I_rest2 p8)) (must (prB (pre_rest2 p8)) (allB fun r8 : R_rest2 => ifB (prB (po_rest2 p8 r8)) (K (.tup []) (Fd2n r8.f) 11) true))))) (ifB (prB (p.k = (2 : Int))) (ifB (prB ((0 : Int) < y0)) (ifB (prB ((p.f.fly.length : Int) < (100 : Int))) (ifB (prB (y0 = 0)) (must (prB (((.prow 2 p.f.fly.length) : SY) = (.prow 2 p.f.fly.length))) (must (prB (((.prow 2 p.f.fly.length) : SY) = (.prow 2 p.f.fly.length))) (must (prB (p.f.fly.length = p.f.fly.length)) (exB fun m7 : List Told => must (prB (rowsR (m7.map encT) [[.int 0 (.ofNat 0), .sint 0 (p.f.s0.l.length : Int), .sint 0 y0, .nilS]])) (must (prB (limP 48 (p.f.fly.length + m7.length))) (K (.tup []) (Fd2 ({ p.f with fly := p.f.fly ++ m7 } : F2) ((p.f.fly ++ m7).length) p.f.s0.l.length p.f.s1.l.length) 11)))))) (ifB (prB (y0 = 1)) (must (prB (((.prow 2 p.f.fly.length) : SY) = (.prow 2 p.f.fly.length))) (must (prB (((.prow 2 p.f.fly.length) : SY) = (.prow 2 p.f.fly.length))) (must (prB (p.f.fly.length = p.f.fly.length)) (exB fun m6 : List Told => must (prB (rowsR (m6.map encT) [[.int 0 (.ofNat 0), .sint 0 (p.f.s1.l.length : Int), .sint 0 y0, .nilS]])) (must (prB (limP 48 (p.f.fly.length + m6.length))) (K (.tup []) (Fd2 ({ p.f with fly := p.f.fly ++ m6 } : F2) ((p.f.fly ++ m6).length) p.f.s0.l.length p.f.s1.l.length) 11)))))) (must (prB (False)) (true)))) (exB fun p9 : A_rest2 => must (prB (((.cons 5 (.sy (.int 0 (p.f.fly.length : Int))) (.cons 4 (.sy (.int 0 y0)) (.cons 3 (.ptr 1 0) (.cons 0 (.ptr 0 0) .nil)))), (Fb2n p.f p.k p.x p.nn p.i), 12) = I_rest2 p9)) (must (prB (pre_rest2 p9)) (allB fun r9 : R_rest2 => ifB (prB (po_rest2 p9 r9)) (K (.tup []) (Fd2n r9.f) 11) true)))) (exB fun p10 : A_rest2 => must (prB (((.cons 5 (.sy (.int 0 (p.f.fly.length : Int))) (.cons 4 (.sy (.int 0 y0)) (.cons 3 (.ptr 1 0) (.cons 0 (.ptr 0 0) .nil)))), (Fb2n p.f p.k p.x p.nn p.i), 12) = I_rest2 p10)) (must (prB (pre_rest2 p10)) (allB fun r10 : R_rest2 => ifB (prB (po_rest2 p10 r10)) (K (.tup []) (Fd2n r10.f) 11) true)))) (exB fun p11 : A_rest2 => must (prB (((.cons 5 (.sy (.int 0 (p.f.fly.length : Int))) (.cons 4 (.sy (.int 0 y0)) (.cons 3 (.ptr 1 0) (.cons 0 (.ptr 0 0) .nil)))), (Fb2n p.f p.k p.x p.nn p.i), 12) = I_rest2 p11)) (must (prB (pre_rest2 p11)) (allB fun r11 : R_rest2 => ifB (prB (po_rest2 p11 r11)) (K (.tup []) (Fd2n r11.f) 11) true)))))))))) (by kernel_rfl) ?_
  dsimp only [pre_step2] at hpre
  obtain ⟨hinv, k1, k2⟩ := hpre
  have hinv : FInv p.f.s0 _ _ p.f.fly := hinv
  have hs : p.f.s0.l.length ≤ 400 := hinv.short
  have hfew : p.f.fly.length ≤ 100 := hinv.few
  have f0 : p.f.c0 ≤ (p.f.s0.l.length : Int) ∧ 0 ≤ p.f.c0 ∧ p.f.s0.l.length ≤ p.f.s0.l.length := ⟨(hinv.each 0 _ _ rfl rfl).cl, (hinv.each 0 _ _ rfl rfl).c0, (hinv.each 0 _ _ rfl rfl).len⟩
  have f1 : p.f.c1 ≤ (p.f.s1.l.length : Int) ∧ 0 ≤ p.f.c1 ∧ p.f.s1.l.length ≤ p.f.s0.l.length := ⟨(hinv.each 1 _ _ rfl rfl).cl, (hinv.each 1 _ _ rfl rfl).c0, (hinv.each 1 _ _ rfl rfl).len⟩
  have t1 := tmb 2 (by decide) p.x
  have t2 := tmp 2 (by decide) (p.x.tmod 2 + 2) (by omega)
  have t3 := tmb 3 (by decide) p.nn
  have t4 := tmp 3 (by decide) (p.nn.tmod 3 + 3) (by omega)
  have t5 := tmp 16 (by decide) (p.f.cnt + 1) (by omega)
  refine mustP (by decide) ?_
  refine mustP (by simp only [InR] ; omega) ?_
  refine mustP (by decide) ?_
  refine ifP (fun hc1 => ?_) (fun hc1 => ?_)
  refine mustP (by simp only [InR] ; omega) ?_
  refine mustP (by decide) ?_
  refine mustP (by simp only [InR] ; omega) ?_
  refine callPR (⟨p.f.s0.l, p.f.s0.com, p.f.s0.sh, p.f.c0, p.f.c1, Int.tmod (p.f.cnt + (1 : Int)) (16 : Int)⟩ : A_add2) rfl (by (try dsimp only [pre_add2]) ; omega) fun r1 hi2 => ?_
  dsimp only [po_add2] at hi2
  exact fin_step2 hK ⟨⟨⟨r1.l, r1.com, p.f.s0.sh⟩, p.f.s1, r1.c0, p.f.c1, p.f.fly, p.f.cnt + (1 : Int)⟩⟩ (by dsimp only [po_step2] <;> (refine ⟨?_, by omega, by omega⟩ ; first | (exfalso ; omega) | exact tr_add (maj := 2) hinv (by simp) (by assumption)))
  refine ifP (fun hc3 => ?_) (fun hc3 => ?_)
  refine ifP (fun hc4 => ?_) (fun hc4 => ?_)
  refine ifP (fun hc5 => ?_) (fun hc5 => ?_)
  refine mustP (by decide) ?_
  refine mustP (by simp only [InR] ; omega) ?_
  refine mustP (by decide) ?_
  refine mustP (by simp only [InR] ; omega) ?_
  refine mustP (by simp only [InR] ; omega) ?_
  refine mustP (rfl) ?_
  refine callPR (⟨p.f.s0.l, p.f.s0.com, p.f.s0.sh, p.f.c0, p.f.c1, Int.tmod ((Int.tmod p.x (2 : Int)) + (2 : Int)) (2 : Int), (1 : Int) + (Int.tmod ((Int.tmod p.nn (3 : Int)) + (3 : Int)) (3 : Int))⟩ : A_since2) rfl (by (try dsimp only [pre_since2]) ; omega) fun r2 hi6 => ?_
  dsimp only [po_since2] at hi6
  refine mustP (rfl) ?_
  refine mustP (rfl) ?_
  refine mustP (rfl) ?_
  refine exB_mk [⟨Int.tmod ((Int.tmod p.x (2 : Int)) + (2 : Int)) (2 : Int), r2.fr, p.f.s0.com, r2.h, r2.o⟩] ?_
  refine mustP (show rowsR ([⟨Int.tmod ((Int.tmod p.x (2 : Int)) + (2 : Int)) (2 : Int), r2.fr, p.f.s0.com, r2.h, r2.o⟩].map encT) [[.sint 0 (Int.tmod ((Int.tmod p.x (2 : Int)) + (2 : Int)) (2 : Int)), .sint 0 r2.fr, .sint 0 p.f.s0.com, .imm r2.h 18 Int r2.o encK]] from ⟨⟨.inl rfl, ⟨.inl rfl, ⟨.inl rfl, ⟨.inl rfl, trivial⟩⟩⟩⟩, trivial⟩) ?_
  refine mustP (by simp [limP] ; omega) ?_
  exact fin_step2 hK ⟨⟨⟨p.f.s0.l, p.f.s0.com, p.f.s0.sh⟩, p.f.s1, p.f.c0, p.f.c1, p.f.fly ++ [⟨Int.tmod ((Int.tmod p.x (2 : Int)) + (2 : Int)) (2 : Int), r2.fr, p.f.s0.com, r2.h, r2.o⟩], p.f.cnt⟩⟩ (by dsimp only [po_step2] <;> (refine ⟨?_, by omega, by omega⟩ ; first | (exfalso ; omega) | exact ⟨tr_since (m := 2) hinv (by omega) (by simp) (by omega) (by assumption), Frz.refl _⟩))
  refine ifP (fun hc7 => ?_) (fun hc7 => ?_)
  refine ifP (fun hc8 => ?_) (fun hc8 => ?_)
  refine ifP (fun hc9 => ?_) (fun hc9 => ?_)
  refine ifP (fun hc10 => ?_) (fun hc10 => ?_)
  refine mustP (rfl) ?_
  refine mustP (rfl) ?_
  refine mustP (rfl) ?_
  refine exB_mk [⟨(0 : Int), (p.f.s0.l.length : Int), Int.tmod ((Int.tmod p.x (2 : Int)) + (2 : Int)) (2 : Int), (.slice none 0 0), []⟩] ?_
  refine mustP (show rowsR ([⟨(0 : Int), (p.f.s0.l.length : Int), Int.tmod ((Int.tmod p.x (2 : Int)) + (2 : Int)) (2 : Int), (.slice none 0 0), []⟩].map encT) [[.int 0 (.ofNat 0), .sint 0 (p.f.s0.l.length : Int), .sint 0 (Int.tmod ((Int.tmod p.x (2 : Int)) + (2 : Int)) (2 : Int)), .nilS]] from ⟨⟨.inr (.inl ⟨_, _, rfl, rfl⟩), ⟨.inl rfl, ⟨.inl rfl, ⟨.inr (.inr ⟨_, _, _, by decide, rfl, rfl⟩), trivial⟩⟩⟩⟩, trivial⟩) ?_
  refine mustP (by simp [limP] ; omega) ?_
  exact fin_step2 hK ⟨({ p.f with fly := p.f.fly ++ [⟨(0 : Int), (p.f.s0.l.length : Int), Int.tmod ((Int.tmod p.x (2 : Int)) + (2 : Int)) (2 : Int), (.slice none 0 0), []⟩] } : F2)⟩ (by dsimp only [po_step2] <;> (refine ⟨?_, by omega, by omega⟩ ; first | (exfalso ; omega) | exact ⟨tr_len (j := 0) hinv (by omega) rfl (by omega) rfl, Frz.refl _⟩ | exact ⟨tr_len (j := 1) hinv (by omega) rfl (by omega) rfl, Frz.refl _⟩))
  refine ifP (fun hc11 => ?_) (fun hc11 => ?_)
  refine mustP (rfl) ?_
  refine mustP (rfl) ?_
  refine mustP (rfl) ?_
  refine exB_mk [⟨(0 : Int), (p.f.s1.l.length : Int), Int.tmod ((Int.tmod p.x (2 : Int)) + (2 : Int)) (2 : Int), (.slice none 0 0), []⟩] ?_
  refine mustP (show rowsR ([⟨(0 : Int), (p.f.s1.l.length : Int), Int.tmod ((Int.tmod p.x (2 : Int)) + (2 : Int)) (2 : Int), (.slice none 0 0), []⟩].map encT) [[.int 0 (.ofNat 0), .sint 0 (p.f.s1.l.length : Int), .sint 0 (Int.tmod ((Int.tmod p.x (2 : Int)) + (2 : Int)) (2 : Int)), .nilS]] from ⟨⟨.inr (.inl ⟨_, _, rfl, rfl⟩), ⟨.inl rfl, ⟨.inl rfl, ⟨.inr (.inr ⟨_, _, _, by decide, rfl, rfl⟩), trivial⟩⟩⟩⟩, trivial⟩) ?_
  refine mustP (by simp [limP] ; omega) ?_
  exact fin_step2 hK ⟨({ p.f with fly := p.f.fly ++ [⟨(0 : Int), (p.f.s1.l.length : Int), Int.tmod ((Int.tmod p.x (2 : Int)) + (2 : Int)) (2 : Int), (.slice none 0 0), []⟩] } : F2)⟩ (by dsimp only [po_step2] <;> (refine ⟨?_, by omega, by omega⟩ ; first | (exfalso ; omega) | exact ⟨tr_len (j := 0) hinv (by omega) rfl (by omega) rfl, Frz.refl _⟩ | exact ⟨tr_len (j := 1) hinv (by omega) rfl (by omega) rfl, Frz.refl _⟩))
  refine mustP (by omega) ?_
  rfl
  refine callPR (⟨p.f, p.k, p.x, p.nn, p.i, Int.tmod ((Int.tmod p.x (2 : Int)) + (2 : Int)) (2 : Int), (p.f.fly.length : Int)⟩ : A_rest2) rfl (by (try dsimp only [pre_rest2]) ; exact ⟨hinv, by omega, by omega, by omega, by omega, by omega⟩) fun r3 hi12 => ?_
  dsimp only [po_rest2] at hi12
  exact fin_step2 hK ⟨r3.f⟩ (by dsimp only [po_step2] <;> (refine ⟨?_, by omega, by omega⟩ ; first | (exfalso ; omega) | exact hi12.1))
  refine callPR (⟨p.f, p.k, p.x, p.nn, p.i, Int.tmod ((Int.tmod p.x (2 : Int)) + (2 : Int)) (2 : Int), (p.f.fly.length : Int)⟩ : A_rest2) rfl (by (try dsimp only [pre_rest2]) ; exact ⟨hinv, by omega, by omega, by omega, by omega, by omega⟩) fun r4 hi13 => ?_
  dsimp only [po_rest2] at hi13
  exact fin_step2 hK ⟨r4.f⟩ (by dsimp only [po_step2] <;> (refine ⟨?_, by omega, by omega⟩ ; first | (exfalso ; omega) | exact hi13.1))
  refine callPR (⟨p.f, p.k, p.x, p.nn, p.i, Int.tmod ((Int.tmod p.x (2 : Int)) + (2 : Int)) (2 : Int), (p.f.fly.length : Int)⟩ : A_rest2) rfl (by (try dsimp only [pre_rest2]) ; exact ⟨hinv, by omega, by omega, by omega, by omega, by omega⟩) fun r5 hi14 => ?_
  dsimp only [po_rest2] at hi14
  exact fin_step2 hK ⟨r5.f⟩ (by dsimp only [po_step2] <;> (refine ⟨?_, by omega, by omega⟩ ; first | (exfalso ; omega) | exact hi14.1))
  refine ifP (fun hc15 => ?_) (fun hc15 => ?_)
  refine ifP (fun hc16 => ?_) (fun hc16 => ?_)
  refine ifP (fun hc17 => ?_) (fun hc17 => ?_)
  refine ifP (fun hc18 => ?_) (fun hc18 => ?_)
  refine mustP (rfl) ?_
  refine mustP (rfl) ?_
  refine mustP (rfl) ?_
  refine exB_mk [⟨(0 : Int), (p.f.s0.l.length : Int), Int.tmod ((Int.tmod p.x (2 : Int)) + (2 : Int)) (2 : Int), (.slice none 0 0), []⟩] ?_
  refine mustP (show rowsR ([⟨(0 : Int), (p.f.s0.l.length : Int), Int.tmod ((Int.tmod p.x (2 : Int)) + (2 : Int)) (2 : Int), (.slice none 0 0), []⟩].map encT) [[.int 0 (.ofNat 0), .sint 0 (p.f.s0.l.length : Int), .sint 0 (Int.tmod ((Int.tmod p.x (2 : Int)) + (2 : Int)) (2 : Int)), .nilS]] from ⟨⟨.inr (.inl ⟨_, _, rfl, rfl⟩), ⟨.inl rfl, ⟨.inl rfl, ⟨.inr (.inr ⟨_, _, _, by decide, rfl, rfl⟩), trivial⟩⟩⟩⟩, trivial⟩) ?_
  refine mustP (by simp [limP] ; omega) ?_
  exact fin_step2 hK ⟨({ p.f with fly := p.f.fly ++ [⟨(0 : Int), (p.f.s0.l.length : Int), Int.tmod ((Int.tmod p.x (2 : Int)) + (2 : Int)) (2 : Int), (.slice none 0 0), []⟩] } : F2)⟩ (by dsimp only [po_step2] <;> (refine ⟨?_, by omega, by omega⟩ ; first | (exfalso ; omega) | exact ⟨tr_len (j := 0) hinv (by omega) rfl (by omega) rfl, Frz.refl _⟩ | exact ⟨tr_len (j := 1) hinv (by omega) rfl (by omega) rfl, Frz.refl _⟩))
  refine ifP (fun hc19 => ?_) (fun hc19 => ?_)
  refine mustP (rfl) ?_
  refine mustP (rfl) ?_
  refine mustP (rfl) ?_
  refine exB_mk [⟨(0 : Int), (p.f.s1.l.length : Int), Int.tmod ((Int.tmod p.x (2 : Int)) + (2 : Int)) (2 : Int), (.slice none 0 0), []⟩] ?_
  refine mustP (show rowsR ([⟨(0 : Int), (p.f.s1.l.length : Int), Int.tmod ((Int.tmod p.x (2 : Int)) + (2 : Int)) (2 : Int), (.slice none 0 0), []⟩].map encT) [[.int 0 (.ofNat 0), .sint 0 (p.f.s1.l.length : Int), .sint 0 (Int.tmod ((Int.tmod p.x (2 : Int)) + (2 : Int)) (2 : Int)), .nilS]] from ⟨⟨.inr (.inl ⟨_, _, rfl, rfl⟩), ⟨.inl rfl, ⟨.inl rfl, ⟨.inr (.inr ⟨_, _, _, by decide, rfl, rfl⟩), trivial⟩⟩⟩⟩, trivial⟩) ?_
  refine mustP (by simp [limP] ; omega) ?_
  exact fin_step2 hK ⟨({ p.f with fly := p.f.fly ++ [⟨(0 : Int), (p.f.s1.l.length : Int), Int.tmod ((Int.tmod p.x (2 : Int)) + (2 : Int)) (2 : Int), (.slice none 0 0), []⟩] } : F2)⟩ (by dsimp only [po_step2] <;> (refine ⟨?_, by omega, by omega⟩ ; first | (exfalso ; omega) | exact ⟨tr_len (j := 0) hinv (by omega) rfl (by omega) rfl, Frz.refl _⟩ | exact ⟨tr_len (j := 1) hinv (by omega) rfl (by omega) rfl, Frz.refl _⟩))
  refine mustP (by omega) ?_
  rfl
  refine callPR (⟨p.f, p.k, p.x, p.nn, p.i, Int.tmod ((Int.tmod p.x (2 : Int)) + (2 : Int)) (2 : Int), (p.f.fly.length : Int)⟩ : A_rest2) rfl (by (try dsimp only [pre_rest2]) ; exact ⟨hinv, by omega, by omega, by omega, by omega, by omega⟩) fun r6 hi20 => ?_
  dsimp only [po_rest2] at hi20
  exact fin_step2 hK ⟨r6.f⟩ (by dsimp only [po_step2] <;> (refine ⟨?_, by omega, by omega⟩ ; first | (exfalso ; omega) | exact hi20.1))
  refine callPR (⟨p.f, p.k, p.x, p.nn, p.i, Int.tmod ((Int.tmod p.x (2 : Int)) + (2 : Int)) (2 : Int), (p.f.fly.length : Int)⟩ : A_rest2) rfl (by (try dsimp only [pre_rest2]) ; exact ⟨hinv, by omega, by omega, by omega, by omega, by omega⟩) fun r7 hi21 => ?_
  dsimp only [po_rest2] at hi21
  exact fin_step2 hK ⟨r7.f⟩ (by dsimp only [po_step2] <;> (refine ⟨?_, by omega, by omega⟩ ; first | (exfalso ; omega) | exact hi21.1))
  refine callPR (⟨p.f, p.k, p.x, p.nn, p.i, Int.tmod ((Int.tmod p.x (2 : Int)) + (2 : Int)) (2 : Int), (p.f.fly.length : Int)⟩ : A_rest2) rfl (by (try dsimp only [pre_rest2]) ; exact ⟨hinv, by omega, by omega, by omega, by omega, by omega⟩) fun r8 hi22 => ?_
  dsimp only [po_rest2] at hi22
  exact fin_step2 hK ⟨r8.f⟩ (by dsimp only [po_step2] <;> (refine ⟨?_, by omega, by omega⟩ ; first | (exfalso ; omega) | exact hi22.1))
  refine ifP (fun hc23 => ?_) (fun hc23 => ?_)
  refine ifP (fun hc24 => ?_) (fun hc24 => ?_)
  refine ifP (fun hc25 => ?_) (fun hc25 => ?_)
  refine ifP (fun hc26 => ?_) (fun hc26 => ?_)
  refine mustP (rfl) ?_
  refine mustP (rfl) ?_
  refine mustP (rfl) ?_
  refine exB_mk [⟨(0 : Int), (p.f.s0.l.length : Int), Int.tmod ((Int.tmod p.x (2 : Int)) + (2 : Int)) (2 : Int), (.slice none 0 0), []⟩] ?_
  refine mustP (show rowsR ([⟨(0 : Int), (p.f.s0.l.length : Int), Int.tmod ((Int.tmod p.x (2 : Int)) + (2 : Int)) (2 : Int), (.slice none 0 0), []⟩].map encT) [[.int 0 (.ofNat 0), .sint 0 (p.f.s0.l.length : Int), .sint 0 (Int.tmod ((Int.tmod p.x (2 : Int)) + (2 : Int)) (2 : Int)), .nilS]] from ⟨⟨.inr (.inl ⟨_, _, rfl, rfl⟩), ⟨.inl rfl, ⟨.inl rfl, ⟨.inr (.inr ⟨_, _, _, by decide, rfl, rfl⟩), trivial⟩⟩⟩⟩, trivial⟩) ?_
  refine mustP (by simp [limP] ; omega) ?_
  exact fin_step2 hK ⟨({ p.f with fly := p.f.fly ++ [⟨(0 : Int), (p.f.s0.l.length : Int), Int.tmod ((Int.tmod p.x (2 : Int)) + (2 : Int)) (2 : Int), (.slice none 0 0), []⟩] } : F2)⟩ (by dsimp only [po_step2] <;> (refine ⟨?_, by omega, by omega⟩ ; first | (exfalso ; omega) | exact ⟨tr_len (j := 0) hinv (by omega) rfl (by omega) rfl, Frz.refl _⟩ | exact ⟨tr_len (j := 1) hinv (by omega) rfl (by omega) rfl, Frz.refl _⟩))
  refine ifP (fun hc27 => ?_) (fun hc27 => ?_)
  refine mustP (rfl) ?_
  refine mustP (rfl) ?_
  refine mustP (rfl) ?_
  refine exB_mk [⟨(0 : Int), (p.f.s1.l.length : Int), Int.tmod ((Int.tmod p.x (2 : Int)) + (2 : Int)) (2 : Int), (.slice none 0 0), []⟩] ?_
  refine mustP (show rowsR ([⟨(0 : Int), (p.f.s1.l.length : Int), Int.tmod ((Int.tmod p.x (2 : Int)) + (2 : Int)) (2 : Int), (.slice none 0 0), []⟩].map encT) [[.int 0 (.ofNat 0), .sint 0 (p.f.s1.l.length : Int), .sint 0 (Int.tmod ((Int.tmod p.x (2 : Int)) + (2 : Int)) (2 : Int)), .nilS]] from ⟨⟨.inr (.inl ⟨_, _, rfl, rfl⟩), ⟨.inl rfl, ⟨.inl rfl, ⟨.inr (.inr ⟨_, _, _, by decide, rfl, rfl⟩), trivial⟩⟩⟩⟩, trivial⟩) ?_
  refine mustP (by simp [limP] ; omega) ?_
  exact fin_step2 hK ⟨({ p.f with fly := p.f.fly ++ [⟨(0 : Int), (p.f.s1.l.length : Int), Int.tmod ((Int.tmod p.x (2 : Int)) + (2 : Int)) (2 : Int), (.slice none 0 0), []⟩] } : F2)⟩ (by dsimp only [po_step2] <;> (refine ⟨?_, by omega, by omega⟩ ; first | (exfalso ; omega) | exact ⟨tr_len (j := 0) hinv (by omega) rfl (by omega) rfl, Frz.refl _⟩ | exact ⟨tr_len (j := 1) hinv (by omega) rfl (by omega) rfl, Frz.refl _⟩))
  refine mustP (by omega) ?_
  rfl
  refine callPR (⟨p.f, p.k, p.x, p.nn, p.i, Int.tmod ((Int.tmod p.x (2 : Int)) + (2 : Int)) (2 : Int), (p.f.fly.length : Int)⟩ : A_rest2) rfl (by (try dsimp only [pre_rest2]) ; exact ⟨hinv, by omega, by omega, by omega, by omega, by omega⟩) fun r9 hi28 => ?_
  dsimp only [po_rest2] at hi28
  exact fin_step2 hK ⟨r9.f⟩ (by dsimp only [po_step2] <;> (refine ⟨?_, by omega, by omega⟩ ; first | (exfalso ; omega) | exact hi28.1))
  refine callPR (⟨p.f, p.k, p.x, p.nn, p.i, Int.tmod ((Int.tmod p.x (2 : Int)) + (2 : Int)) (2 : Int), (p.f.fly.length : Int)⟩ : A_rest2) rfl (by (try dsimp only [pre_rest2]) ; exact ⟨hinv, by omega, by omega, by omega, by omega, by omega⟩) fun r10 hi29 => ?_
  dsimp only [po_rest2] at hi29
  exact fin_step2 hK ⟨r10.f⟩ (by dsimp only [po_step2] <;> (refine ⟨?_, by omega, by omega⟩ ; first | (exfalso ; omega) | exact hi29.1))
  refine callPR (⟨p.f, p.k, p.x, p.nn, p.i, Int.tmod ((Int.tmod p.x (2 : Int)) + (2 : Int)) (2 : Int), (p.f.fly.length : Int)⟩ : A_rest2) rfl (by (try dsimp only [pre_rest2]) ; exact ⟨hinv, by omega, by omega, by omega, by omega, by omega⟩) fun r11 hi30 => ?_
  dsimp only [po_rest2] at hi30
  exact fin_step2 hK ⟨r11.f⟩ (by dsimp only [po_step2] <;> (refine ⟨?_, by omega, by omega⟩ ; first | (exfalso ; omega) | exact hi30.1))
noncomputable def ec_step2 : SpecE := tstE (elB 1 2) (esOf I_step2 (spP pre_step2 out_step2)) ec_step1
theorem nc_step2 : NatE Try.prog 28 1 ec_step2 := tstE_ok (natE_said (f := 28) (k := 1) (lp := lp_step2) (lf := 600) tb_mix (cfT_ok nat_come2_ok) ft_step2_ok (by rfl) (fun b j x h => (mem_step lo_rest2 (fun h => (by cases h)) h)) fun p K h => vf_step2 p K (mustP_ok h).1 (mustP_ok h).2) nc_step1
noncomputable def nat_step2 := natC nat_come2 1 ec_step2 28 [(0, 4), (1, 15)]
theorem nat_step2_ok : NatsOk Try.prog nat_step2 := natC_ok nc_step2 nat_come2_ok
end Go.Proofs.Try

namespace Go.Proofs.Try
open Go Go.RowKit Go.Sy
open Go.Eng hiding allB
set_option maxRecDepth 1000000
set_option linter.unusedVariables false
set_option maxHeartbeats 4000000
def ft_come3 : XF := ft_come1
theorem ft_come3_ok : chkF Try.prog 41 ft_come3 = true := ft_come1_ok
structure A_come3 where
  f : F3
  t : Told
structure R_come3 where
  f : F3
def po_come3 (p : A_come3) (r : R_come3) : Prop := (FI3 r.f ∧ Fr3 p.f r.f) ∧ r.f.cnt = p.f.cnt
noncomputable def I_come3 (p : A_come3) : IE := ([.ptr 0 0, .agg [.sy (.int 0 p.t.to), .sy (.int 0 p.t.fr), .sy (.int 0 p.t.c), .sy (.imm p.t.h 18 Int p.t.l encK)]], (Fd3n p.f), 15)
noncomputable def out_come3 (p : A_come3) (K : KE) : Bool := allB fun r : R_come3 => ifB (prB (po_come3 p r)) (K (.tup []) (Fd3n r.f) 15) true
def pre_come3 (p : A_come3) : Prop := FI3 p.f ∧ MsgOk p.f.s0 [p.f.s1, p.f.s2] p.t
theorem fin_come3 {p : A_come3} {K : KE} (hK : out_come3 p K = true) (r : R_come3) (h : po_come3 p r) : K (.tup []) (Fd3n r.f) 15 = true := ifB_use h (allB_ok hK r)
theorem vf_come3 (p : A_come3) (K : KE) (hpre : pre_come3 p) (hK : out_come3 p K = true) : (funE 1 (cfT nat_step2) noLp 600 ft_come3 (I_come3 p).1 (I_come3 p).2.1 (I_come3 p).2.2 K) = true := by
  refine Eq.trans (b := (ifB (prB (p.t.to = (0 : Int))) (must (prB (InR 1 p.t.c)) (must (prB (((.int 0 p.t.fr) : SY) = (.int 0 p.t.fr))) (exB fun p1 : A_ack3 => must (prB (([.ptr 0 0, .agg [.sy (.int 1 p.t.c), .int 2 (.ofNat 1)], .sy (.int 0 p.t.fr)], (Ro3n p.f.s0.l p.f.s0.com p.f.s0.sh p.f.c0 p.f.c1 p.f.c2), 4) = I_ack3 p1)) (must (prB (pre_ack3 p1)) (allB fun r1 : R_ack3 => ifB (prB (po_ack3 p1 r1)) (K (.tup []) (Fd3n ⟨⟨p1.l, r1.com, p1.sh⟩, p.f.s1, p.f.s2, r1.c0, r1.c1, r1.c2, p.f.fly, p.f.cnt⟩) 15) true))))) (ifB (prB (p.t.to = 0)) (exB fun p4 : A_take3 => must (prB (([.ptr 0 0, .sy (.int 0 p.t.fr), .sy (.imm p.t.h 18 Int p.t.l encK), .sy (.int 0 p.t.c)], (Ro3n p.f.s0.l p.f.s0.com p.f.s0.sh p.f.c0 p.f.c1 p.f.c2), 4) = I_take3 p4)) (must (prB (pre_take3 p4)) (allB fun r4 : R_take3 => ifB (prB (po_take3 p4 r4)) (K (.tup []) (.node (.node (.node (.node .leaf (some (.prow 45 18 Int r4.l encK)) .leaf) (some (.blk false 67 10 [[.int 1 (.ofNat 0), .int 3 (.ofNat 1), .sl 6 0 3 (.rest 0), .sy (.int 1 p4.me), .int 2 (.ofNat 1), .sy (.prow 7 r4.l.length), .int 0 (.ofNat 0), .sy (.int 0 r4.com), .sy (.bool p4.sh), .map 8]])) (.node .leaf (some (.map [(.agg [.int 1 (.ofNat 0), .int 2 (.ofNat 1)], .sy (.int 0 0), 0), (.agg [.int 1 (.ofNat 1), .int 2 (.ofNat 1)], .sy (.int 0 0), 1), (.agg [.int 1 (.ofNat 2), .int 2 (.ofNat 1)], .sy (.int 0 0), 2)] 3)) .leaf)) (some (.blk true 22 1 [[.ptr 3 0], [.ptr 4 0], [.ptr 5 0]])) (.node (.node .leaf (some (.blk true 31 2 [[.int 1 (.ofNat 0), .int 2 (.ofNat 1)], [.int 1 (.ofNat 1), .int 2 (.ofNat 1)], [.int 1 (.ofNat 2), .int 2 (.ofNat 1)]])) .leaf) (some (.blk false 67 10 [[.int 1 (.ofNat 0), .int 3 (.ofNat 1), .sl 12 0 3 (.rest 0), .sy (.int 1 2), .int 2 (.ofNat 1), .sy (.prow 13 p.f.s2.l.length), .int 0 (.ofNat 0), .sy (.int 0 p.f.s2.com), .sy (.bool p.f.s2.sh), .map 14]])) (.node .leaf (some (.prow 45 18 Int p.f.s2.l encK)) .leaf))) (some (.blk false 81 3 [[.sl 1 0 3 (.rest 0), .sy (.prow 2 p.f.fly.length), .sy (.int 0 p.f.cnt)]])) (.node (.node (.node .leaf (some (.map [(.agg [.int 1 (.ofNat 0), .int 2 (.ofNat 1)], .sy (.int 0 p4.c0), 0), (.agg [.int 1 (.ofNat 1), .int 2 (.ofNat 1)], .sy (.int 0 p4.c1), 1), (.agg [.int 1 (.ofNat 2), .int 2 (.ofNat 1)], .sy (.int 0 p4.c2), 2)] 3)) .leaf) (some (.blk false 67 10 [[.int 1 (.ofNat 0), .int 3 (.ofNat 1), .sl 9 0 3 (.rest 0), .sy (.int 1 1), .int 2 (.ofNat 1), .sy (.prow 10 p.f.s1.l.length), .int 0 (.ofNat 0), .sy (.int 0 p.f.s1.com), .sy (.bool p.f.s1.sh), .map 11]])) (.node .leaf (some (.blk true 31 2 [[.int 1 (.ofNat 0), .int 2 (.ofNat 1)], [.int 1 (.ofNat 1), .int 2 (.ofNat 1)], [.int 1 (.ofNat 2), .int 2 (.ofNat 1)]])) .leaf)) (some (.prow 100 4 Told p.f.fly encT)) (.node (.node .leaf (some (.prow 45 18 Int p.f.s1.l encK)) .leaf) (some (.blk true 31 2 [[.int 1 (.ofNat 0), .int 2 (.ofNat 1)], [.int 1 (.ofNat 1), .int 2 (.ofNat 1)], [.int 1 (.ofNat 2), .int 2 (.ofNat 1)]])) (.node .leaf (some (.map [(.agg [.int 1 (.ofNat 0), .int 2 (.ofNat 1)], .sy (.int 0 0), 0), (.agg [.int 1 (.ofNat 1), .int 2 (.ofNat 1)], .sy (.int 0 0), 1), (.agg [.int 1 (.ofNat 2), .int 2 (.ofNat 1)], .sy (.int 0 0), 2)] 3)) .leaf)))) 15) true))) (ifB (prB (p.t.to = 1)) (exB fun p3 : A_take3 => must (prB (([.ptr 0 0, .sy (.int 0 p.t.fr), .sy (.imm p.t.h 18 Int p.t.l encK), .sy (.int 0 p.t.c)], (Rm3n p.f.s1.l p.f.s1.com p.f.s1.sh 0 0 0 1), 4) = I_take3 p3)) (must (prB (pre_take3 p3)) (allB fun r3 : R_take3 => ifB (prB (po_take3 p3 r3)) (K (.tup []) (Fg3 ({ p.f with s1 := ⟨r3.l, r3.com, p3.sh⟩ } : F3) p3.me p3.c0 p3.c1 p3.c2 2 0 0 0 p.f.fly.length p.f.s0.l.length r3.l.length p.f.s2.l.length) 15) true))) (ifB (prB (p.t.to = 2)) (exB fun p2 : A_take3 => must (prB (([.ptr 0 0, .sy (.int 0 p.t.fr), .sy (.imm p.t.h 18 Int p.t.l encK), .sy (.int 0 p.t.c)], (Rm3n p.f.s2.l p.f.s2.com p.f.s2.sh 0 0 0 2), 4) = I_take3 p2)) (must (prB (pre_take3 p2)) (allB fun r2 : R_take3 => ifB (prB (po_take3 p2 r2)) (K (.tup []) (Fg3 ({ p.f with s2 := ⟨r2.l, r2.com, p2.sh⟩ } : F3) 1 0 0 0 p2.me p2.c0 p2.c1 p2.c2 p.f.fly.length p.f.s0.l.length p.f.s1.l.length r2.l.length) 15) true))) (must (prB (False)) (true))))))) (by kernel_rfl) ?_
  dsimp only [pre_come3] at hpre
  obtain ⟨hinv, hm⟩ := hpre
  have hinv : FInv p.f.s0 _ _ p.f.fly := hinv
  have hs : p.f.s0.l.length ≤ 400 := hinv.short
  have hfew : p.f.fly.length ≤ 100 := hinv.few
  have f0 : p.f.c0 ≤ (p.f.s0.l.length : Int) ∧ 0 ≤ p.f.c0 ∧ p.f.s0.l.length ≤ p.f.s0.l.length := ⟨(hinv.each 0 _ _ rfl rfl).cl, (hinv.each 0 _ _ rfl rfl).c0, (hinv.each 0 _ _ rfl rfl).len⟩
  have f1 : p.f.c1 ≤ (p.f.s1.l.length : Int) ∧ 0 ≤ p.f.c1 ∧ p.f.s1.l.length ≤ p.f.s0.l.length := ⟨(hinv.each 1 _ _ rfl rfl).cl, (hinv.each 1 _ _ rfl rfl).c0, (hinv.each 1 _ _ rfl rfl).len⟩
  have f2 : p.f.c2 ≤ (p.f.s2.l.length : Int) ∧ 0 ≤ p.f.c2 ∧ p.f.s2.l.length ≤ p.f.s0.l.length := ⟨(hinv.each 2 _ _ rfl rfl).cl, (hinv.each 2 _ _ rfl rfl).c0, (hinv.each 2 _ _ rfl rfl).len⟩
  have hm2 := hm.flat hs
  simp only [List.length_cons, List.length_nil, List.length_singleton] at hm2
  refine ifP (fun hc1 => ?_) (fun hc1 => ?_)
  refine mustP (by simp only [InR] ; omega) ?_
  refine mustP (rfl) ?_
  refine callPR (⟨p.f.s0.l, p.f.s0.com, p.f.s0.sh, p.f.c0, p.f.c1, p.f.c2, p.t.c, p.t.fr⟩ : A_ack3) rfl (by (try dsimp only [pre_ack3]) ; omega) fun r1 hi2 => ?_
  dsimp only [po_ack3] at hi2
  exact fin_come3 hK ⟨⟨⟨p.f.s0.l, r1.com, p.f.s0.sh⟩, p.f.s1, p.f.s2, r1.c0, r1.c1, r1.c2, p.f.fly, p.f.cnt⟩⟩ (by dsimp only [po_come3] <;> (first | (exfalso ; omega) | exact ⟨tr_ack (maj := 2) (m := 3) hinv (by simp) (by simp) hm (by assumption) (by assumption), rfl⟩))
  refine ifP (fun hc3 => ?_) (fun hc3 => ?_)
  exfalso ; omega
  refine ifP (fun hc4 => ?_) (fun hc4 => ?_)
  refine callPR (⟨p.f.s1.l, p.f.s1.com, p.f.s1.sh, (0 : Int), (0 : Int), (0 : Int), (1 : Int), p.t.fr, p.t.h, p.t.l, p.t.c⟩ : A_take3) rfl (by (try dsimp only [pre_take3]) ; omega) fun r3 hi5 => ?_
  dsimp only [po_take3] at hi5
  exact fin_come3 hK ⟨({ p.f with s1 := ⟨r3.l, r3.com, p.f.s1.sh⟩ } : F3)⟩ (by dsimp only [po_come3] <;> (first | (exfalso ; omega) | exact ⟨tr_take (i := 0) hinv rfl hm (by assumption) (by assumption), rfl⟩))
  refine ifP (fun hc6 => ?_) (fun hc6 => ?_)
  refine callPR (⟨p.f.s2.l, p.f.s2.com, p.f.s2.sh, (0 : Int), (0 : Int), (0 : Int), (2 : Int), p.t.fr, p.t.h, p.t.l, p.t.c⟩ : A_take3) rfl (by (try dsimp only [pre_take3]) ; omega) fun r2 hi7 => ?_
  dsimp only [po_take3] at hi7
  exact fin_come3 hK ⟨({ p.f with s2 := ⟨r2.l, r2.com, p.f.s2.sh⟩ } : F3)⟩ (by dsimp only [po_come3] <;> (first | (exfalso ; omega) | exact ⟨tr_take (i := 1) hinv rfl hm (by assumption) (by assumption), rfl⟩))
  refine mustP (by omega) ?_
  rfl
noncomputable def ec_come3 : SpecE := tstE (elB 1 3) (esOf I_come3 (spP pre_come3 out_come3)) ec_come2
theorem nc_come3 : NatE Try.prog 41 1 ec_come3 := tstE_ok (natE_pl (f := 41) (k := 1) (cfT_ok nat_step2_ok) ft_come3_ok (by rfl) (by rfl) vf_come3) nc_come2
noncomputable def nat_come3 := natC nat_step2 1 ec_come3 41 [(0, 4), (1, 15)]
theorem nat_come3_ok : NatsOk Try.prog nat_come3 := natC_ok nc_come3 nat_step2_ok
def ft_step3 : XF := ft_step1
theorem ft_step3_ok : chkF Try.prog 28 ft_step3 = true := ft_step1_ok
structure A_rest3 where
  f : F3
  k : Int
  x : Int
  nn : Int
  i : Int
  y : Int
  kk : Int
structure R_rest3 where
  f : F3
def po_rest3 (p : A_rest3) (r : R_rest3) : Prop := (FI3 r.f ∧ Fr3 p.f r.f) ∧ r.f.cnt = p.f.cnt
noncomputable def I_rest3 (p : A_rest3) : IL := ((.cons 5 (.sy (.int 0 p.kk)) (.cons 4 (.sy (.int 0 p.y)) (.cons 3 (.ptr 1 0) (.cons 0 (.ptr 0 0) .nil)))), (Fb3n p.f p.k p.x p.nn p.i), 16)
noncomputable def out_rest3 (p : A_rest3) (K : KC) : Bool := allB fun r : R_rest3 => ifB (prB (po_rest3 p r)) (K 0 .nil (Fd3n r.f) 15) true
def pre_rest3 (p : A_rest3) : Prop := FI3 p.f ∧ 0 ≤ p.f.cnt ∧ p.f.cnt ≤ 1000000 ∧ 0 ≤ p.y ∧ p.y < 3 ∧ p.kk = (p.f.fly.length : Int)
theorem fin_rest3 {p : A_rest3} {K : KC} (hK : out_rest3 p K = true) (r : R_rest3) (h : po_rest3 p r) : K 0 .nil (Fd3n r.f) 15 = true := ifB_use h (allB_ok hK r)
noncomputable def sp_rest3 (p : A_rest3) (K : KC) : Bool := must (prB (pre_rest3 p)) (out_rest3 p K)
noncomputable def lp_step3 : LpF := fun j S M nx K => (Bool.rec (false) (exB fun p : A_rest3 => must (prB ((S, M, nx) = I_rest3 p)) (sp_rest3 p K)) (Nat.beq j 0))
def bd_rest3 : XC := bd_rest1
theorem vb_rest3 (p : A_rest3) (K : KC) (hpre : pre_rest3 p) (hK : out_rest3 p K = true) : (codeX (cfT nat_come3) lp_step3 600 bd_rest3 (I_rest3 p).1 (I_rest3 p).2.1 (I_rest3 p).2.2 K) = true := by
  refine Eq.trans (b := (let y0 : Int := (Int.tmod ((Int.tmod p.i p.kk) + p.kk) p.kk); ifB (prB (p.k = (7 : Int))) (ifB (prB (p.y = 0)) (K 0 .nil (Fd3n ({ p.f with s0 := ({ p.f.s0 with sh := true = true } : Rl) } : F3)) 15) (ifB (prB (p.y = 1)) (K 0 .nil (Fd3n ({ p.f with s1 := ({ p.f.s1 with sh := true = true } : Rl) } : F3)) 15) (ifB (prB (p.y = 2)) (K 0 .nil (Fd3n ({ p.f with s2 := ({ p.f.s2 with sh := true = true } : Rl) } : F3)) 15) (must (prB (False)) (true))))) (ifB (prB ((3 : Int) ≤ p.k)) (ifB (prB ((0 : Int) < p.kk)) (must (prB (p.kk ≠ 0)) (must (prB (InR 0 ((Int.tmod p.i p.kk) + p.kk))) (must (prB (p.kk ≠ 0)) (must (prB (0 ≤ y0 ∧ y0 < (p.f.fly.length : Int))) (must (prB ((y0.toNat) < p.f.fly.length)) (allB fun x1 : Told => ifB (prB (p.f.fly[y0.toNat]? = some x1)) (ifB (prB (¬ p.k = (5 : Int))) (must (prB (p.f.fly.length = p.f.fly.length ∧ 0 ≤ (0 : Int) ∧ (0 : Int) ≤ y0 ∧ y0 ≤ (p.f.fly.length : Int))) (must (prB (InR 0 (y0 + (1 : Int)))) (must (prB (p.f.fly.length = p.f.fly.length ∧ 0 ≤ (y0 + (1 : Int)) ∧ (y0 + (1 : Int)) ≤ (p.f.fly.length : Int) ∧ (p.f.fly.length : Int) ≤ (p.f.fly.length : Int))) (must (prB (((.prow 3 p.f.fly.length) : SY) = (.prow 3 p.f.fly.length))) (must (prB (p.f.fly.length = p.f.fly.length ∧ 0 ≤ (0 : Int) ∧ (0 : Int) ≤ y0 ∧ y0 ≤ (p.f.fly.length : Int))) (must (prB (((.psub 3 4 0 ((y0.toNat) - 0)) : SY) = (.psub 3 4 0 ((y0.toNat) - 0)))) (must (prB (((.prow 3 p.f.fly.length) : SY) = (.prow 3 p.f.fly.length))) (must (prB (p.f.fly.length = p.f.fly.length ∧ 0 ≤ (y0 + (1 : Int)) ∧ (y0 + (1 : Int)) ≤ (p.f.fly.length : Int) ∧ (p.f.fly.length : Int) ≤ (p.f.fly.length : Int))) (must (prB (((.psub 3 4 ((y0 + (1 : Int)).toNat) (p.f.fly.length - ((y0 + (1 : Int)).toNat))) : SY) = (.psub 3 4 ((y0 + (1 : Int)).toNat) (p.f.fly.length - ((y0 + (1 : Int)).toNat))))) (must (prB (0 + ((y0.toNat) - 0) ≤ p.f.fly.length)) (ifB (prB (((p.f.fly.drop 0).take ((y0.toNat) - 0)) = [])) (must (prB (((.prow 3 p.f.fly.length) : SY) = (.prow 3 p.f.fly.length))) (must (prB (p.f.fly.length = p.f.fly.length ∧ 0 ≤ (y0 + (1 : Int)) ∧ (y0 + (1 : Int)) ≤ (p.f.fly.length : Int) ∧ (p.f.fly.length : Int) ≤ (p.f.fly.length : Int))) (must (prB (((.psub 3 4 ((y0 + (1 : Int)).toNat) (p.f.fly.length - ((y0 + (1 : Int)).toNat))) : SY) = (.psub 3 4 ((y0 + (1 : Int)).toNat) (p.f.fly.length - ((y0 + (1 : Int)).toNat))))) (must (prB (((y0 + (1 : Int)).toNat) + (p.f.fly.length - ((y0 + (1 : Int)).toNat)) ≤ p.f.fly.length)) (ifB (prB (((p.f.fly.drop ((y0 + (1 : Int)).toNat)).take (p.f.fly.length - ((y0 + (1 : Int)).toNat))) = [])) (must (prB ((.sl 17 0 0 (.ex 0) : AV) = (.sl 17 0 0 (.ex 0) : AV))) (ifB (prB (¬ p.k = (6 : Int))) (exB fun p1 : A_come3 => must (prB (([.ptr 0 0, .agg [.sy (.int 0 x1.to), .sy (.int 0 x1.fr), .sy (.int 0 x1.c), .sy (.imm x1.h 18 Int x1.l encK)]], (Fd3 ({ p.f with fly := ([] : List Told) } : F3) 0 p.f.s0.l.length p.f.s1.l.length p.f.s2.l.length), 15) = I_come3 p1)) (must (prB (pre_come3 p1)) (allB fun r1 : R_come3 => ifB (prB (po_come3 p1 r1)) (K 0 .nil (Fd3n r1.f) 15) true))) (K 0 .nil (Fd3 ({ p.f with fly := ([] : List Told) } : F3) 0 p.f.s0.l.length p.f.s1.l.length p.f.s2.l.length) 15))) (must (prB (limP 48 ((p.f.fly.drop ((y0 + (1 : Int)).toNat)).take (p.f.fly.length - ((y0 + (1 : Int)).toNat))).length)) (ifB (prB (¬ p.k = (6 : Int))) (exB fun p2 : A_come3 => must (prB (([.ptr 0 0, .agg [.sy (.int 0 x1.to), .sy (.int 0 x1.fr), .sy (.int 0 x1.c), .sy (.imm x1.h 18 Int x1.l encK)]], (Fd3 ({ p.f with fly := (p.f.fly.drop ((y0 + (1 : Int)).toNat)).take (p.f.fly.length - ((y0 + (1 : Int)).toNat)) } : F3) (((p.f.fly.drop ((y0 + (1 : Int)).toNat)).take (p.f.fly.length - ((y0 + (1 : Int)).toNat))).length) p.f.s0.l.length p.f.s1.l.length p.f.s2.l.length), 15) = I_come3 p2)) (must (prB (pre_come3 p2)) (allB fun r2 : R_come3 => ifB (prB (po_come3 p2 r2)) (K 0 .nil (Fd3n r2.f) 15) true))) (K 0 .nil (Fd3 ({ p.f with fly := (p.f.fly.drop ((y0 + (1 : Int)).toNat)).take (p.f.fly.length - ((y0 + (1 : Int)).toNat)) } : F3) (((p.f.fly.drop ((y0 + (1 : Int)).toNat)).take (p.f.fly.length - ((y0 + (1 : Int)).toNat))).length) p.f.s0.l.length p.f.s1.l.length p.f.s2.l.length) 15)))))))) (must (prB (limP 48 ((p.f.fly.drop 0).take ((y0.toNat) - 0)).length)) (must (prB (((.prow 3 p.f.fly.length) : SY) = (.prow 3 p.f.fly.length))) (must (prB (p.f.fly.length = p.f.fly.length ∧ 0 ≤ (y0 + (1 : Int)) ∧ (y0 + (1 : Int)) ≤ (p.f.fly.length : Int) ∧ (p.f.fly.length : Int) ≤ (p.f.fly.length : Int))) (must (prB (((.psub 3 4 ((y0 + (1 : Int)).toNat) (p.f.fly.length - ((y0 + (1 : Int)).toNat))) : SY) = (.psub 3 4 ((y0 + (1 : Int)).toNat) (p.f.fly.length - ((y0 + (1 : Int)).toNat))))) (must (prB (((y0 + (1 : Int)).toNat) + (p.f.fly.length - ((y0 + (1 : Int)).toNat)) ≤ p.f.fly.length)) (must (prB ((((p.f.fly.drop 0).take ((y0.toNat) - 0)).length) = ((p.f.fly.drop 0).take ((y0.toNat) - 0)).length)) (ifB (prB (((p.f.fly.drop ((y0 + (1 : Int)).toNat)).take (p.f.fly.length - ((y0 + (1 : Int)).toNat))) = [])) (ifB (prB (¬ p.k = (6 : Int))) (exB fun p4 : A_come3 => must (prB (([.ptr 0 0, .agg [.sy (.int 0 x1.to), .sy (.int 0 x1.fr), .sy (.int 0 x1.c), .sy (.imm x1.h 18 Int x1.l encK)]], (Fd3 ({ p.f with fly := (p.f.fly.drop 0).take ((y0.toNat) - 0) } : F3) (((p.f.fly.drop 0).take ((y0.toNat) - 0)).length) p.f.s0.l.length p.f.s1.l.length p.f.s2.l.length), 15) = I_come3 p4)) (must (prB (pre_come3 p4)) (allB fun r4 : R_come3 => ifB (prB (po_come3 p4 r4)) (K 0 .nil (Fd3n r4.f) 15) true))) (K 0 .nil (Fd3 ({ p.f with fly := (p.f.fly.drop 0).take ((y0.toNat) - 0) } : F3) (((p.f.fly.drop 0).take ((y0.toNat) - 0)).length) p.f.s0.l.length p.f.s1.l.length p.f.s2.l.length) 15)) (exB fun m1 : List Told => must (prB (rowsR (m1.map encT) (((p.f.fly.drop ((y0 + (1 : Int)).toNat)).take (p.f.fly.length - ((y0 + (1 : Int)).toNat))).map encT))) (must (prB (limP 48 (((p.f.fly.drop 0).take ((y0.toNat) - 0)).length + m1.length))) (ifB (prB (¬ p.k = (6 : Int))) (exB fun p3 : A_come3 => must (prB (([.ptr 0 0, .agg [.sy (.int 0 x1.to), .sy (.int 0 x1.fr), .sy (.int 0 x1.c), .sy (.imm x1.h 18 Int x1.l encK)]], (Fd3 ({ p.f with fly := ((p.f.fly.drop 0).take ((y0.toNat) - 0)) ++ m1 } : F3) ((((p.f.fly.drop 0).take ((y0.toNat) - 0)) ++ m1).length) p.f.s0.l.length p.f.s1.l.length p.f.s2.l.length), 15) = I_come3 p3)) (must (prB (pre_come3 p3)) (allB fun r3 : R_come3 => ifB (prB (po_come3 p3 r3)) (K 0 .nil (Fd3n r3.f) 15) true))) (K 0 .nil (Fd3 ({ p.f with fly := ((p.f.fly.drop 0).take ((y0.toNat) - 0)) ++ m1 } : F3) ((((p.f.fly.drop 0).take ((y0.toNat) - 0)) ++ m1).length) p.f.s0.l.length p.f.s1.l.length p.f.s2.l.length) 15)))))))))))))))))))))) (ifB (prB (¬ p.k = (6 : Int))) (exB fun p5 : A_come3 => must (prB (([.ptr 0 0, .agg [.sy (.int 0 x1.to), .sy (.int 0 x1.fr), .sy (.int 0 x1.c), .sy (.imm x1.h 18 Int x1.l encK)]], (Fd3n p.f), 15) = I_come3 p5)) (must (prB (pre_come3 p5)) (allB fun r5 : R_come3 => ifB (prB (po_come3 p5 r5)) (K 0 .nil (Fd3n r5.f) 15) true))) (K 0 .nil (Fd3n p.f) 15))) true)))))) (K 0 .nil (Fd3n p.f) 15)) (K 0 .nil (Fd3n p.f) 15)))) (by kernel_rfl) ?_
  dsimp only [pre_rest3] at hpre
  obtain ⟨hinv, k1, k2, k3, k4, k5⟩ := hpre
  have hinv : FInv p.f.s0 _ _ p.f.fly := hinv
  have hs : p.f.s0.l.length ≤ 400 := hinv.short
  have hfew : p.f.fly.length ≤ 100 := hinv.few
  have f0 : p.f.c0 ≤ (p.f.s0.l.length : Int) ∧ 0 ≤ p.f.c0 ∧ p.f.s0.l.length ≤ p.f.s0.l.length := ⟨(hinv.each 0 _ _ rfl rfl).cl, (hinv.each 0 _ _ rfl rfl).c0, (hinv.each 0 _ _ rfl rfl).len⟩
  have f1 : p.f.c1 ≤ (p.f.s1.l.length : Int) ∧ 0 ≤ p.f.c1 ∧ p.f.s1.l.length ≤ p.f.s0.l.length := ⟨(hinv.each 1 _ _ rfl rfl).cl, (hinv.each 1 _ _ rfl rfl).c0, (hinv.each 1 _ _ rfl rfl).len⟩
  have f2 : p.f.c2 ≤ (p.f.s2.l.length : Int) ∧ 0 ≤ p.f.c2 ∧ p.f.s2.l.length ≤ p.f.s0.l.length := ⟨(hinv.each 2 _ _ rfl rfl).cl, (hinv.each 2 _ _ rfl rfl).c0, (hinv.each 2 _ _ rfl rfl).len⟩
  have t6 := tmk p.kk p.i
  have t7 := tmk2 p.kk p.i
  refine ifP (fun hc1 => ?_) (fun hc1 => ?_)
  refine ifP (fun hc2 => ?_) (fun hc2 => ?_)
  exact fin_rest3 hK ⟨({ p.f with s0 := ({ p.f.s0 with sh := true = true } : Rl) } : F3)⟩ (by dsimp only [po_rest3] <;> (first | (exfalso ; omega) | exact ⟨by exact ⟨tr_shut hinv _, frz_shut rfl⟩, by first | rfl | exact hi0.2⟩))
  refine ifP (fun hc3 => ?_) (fun hc3 => ?_)
  exact fin_rest3 hK ⟨({ p.f with s1 := ({ p.f.s1 with sh := true = true } : Rl) } : F3)⟩ (by dsimp only [po_rest3] <;> (first | (exfalso ; omega) | exact ⟨by exact ⟨tr_shutO (i := 0) hinv rfl _, frz_other (i := 0) rfl fun _ => ⟨rfl, rfl⟩⟩, by first | rfl | exact hi0.2⟩))
  refine ifP (fun hc4 => ?_) (fun hc4 => ?_)
  exact fin_rest3 hK ⟨({ p.f with s2 := ({ p.f.s2 with sh := true = true } : Rl) } : F3)⟩ (by dsimp only [po_rest3] <;> (first | (exfalso ; omega) | exact ⟨by exact ⟨tr_shutO (i := 1) hinv rfl _, frz_other (i := 1) rfl fun _ => ⟨rfl, rfl⟩⟩, by first | rfl | exact hi0.2⟩))
  refine mustP (by omega) ?_
  rfl
  refine ifP (fun hc5 => ?_) (fun hc5 => ?_)
  refine ifP (fun hc6 => ?_) (fun hc6 => ?_)
  refine mustP (by omega) ?_
  refine mustP (by simp only [InR] ; omega) ?_
  refine mustP (by omega) ?_
  refine mustP (by first | omega | (constructor <;> omega)) ?_
  refine mustP (by omega) ?_
  refine allB_mk (fun x1 => ?_)
  refine ifP (fun hi7 => ?_) (fun _ => rfl)
  have hm := hinv.msgs x1 (List.mem_of_getElem? (by assumption))
  refine ifP (fun hc8 => ?_) (fun hc8 => ?_)
  refine mustP (by first | omega | (simp ; omega)) ?_
  refine mustP (by simp only [InR] ; omega) ?_
  refine mustP (by first | omega | (simp ; omega)) ?_
  refine mustP (rfl) ?_
  refine mustP (by first | omega | (simp ; omega)) ?_
  refine mustP (rfl) ?_
  refine mustP (rfl) ?_
  refine mustP (by first | omega | (simp ; omega)) ?_
  refine mustP (rfl) ?_
  refine mustP (by (first | omega | (simp [limP] <;> omega))) ?_
  refine ifP (fun hc9 => ?_) (fun hc9 => ?_)
  have hc9l : (((p.f.fly.drop 0).take (((Int.tmod ((Int.tmod p.i p.kk) + p.kk) p.kk).toNat) - 0))).length = 0 := (by rw [hc9] ; rfl)
  refine mustP (rfl) ?_
  refine mustP (by first | omega | (simp ; omega)) ?_
  refine mustP (rfl) ?_
  refine mustP (by (first | omega | (simp [limP] <;> omega))) ?_
  refine ifP (fun hc10 => ?_) (fun hc10 => ?_)
  have hc10l : (((p.f.fly.drop (((Int.tmod ((Int.tmod p.i p.kk) + p.kk) p.kk) + (1 : Int)).toNat)).take (p.f.fly.length - (((Int.tmod ((Int.tmod p.i p.kk) + p.kk) p.kk) + (1 : Int)).toNat)))).length = 0 := (by rw [hc10] ; rfl)
  refine mustP (rfl) ?_
  refine ifP (fun hc11 => ?_) (fun hc11 => ?_)
  refine callPR (⟨({ p.f with fly := ([] : List Told) } : F3), ⟨x1.to, x1.fr, x1.c, x1.h, x1.l⟩⟩ : A_come3) rfl (by (try dsimp only [pre_come3]) ; exact ⟨(hinv.sub (fun _ h => by simp at h) (by simp)), hm⟩) fun r1 hi12 => ?_
  dsimp only [po_come3] at hi12
  exact fin_rest3 hK ⟨r1.f⟩ (by dsimp only [po_rest3] <;> (first | (exfalso ; omega) | exact ⟨by exact hi12.1, by first | rfl | exact hi12.2⟩))
  exact fin_rest3 hK ⟨({ p.f with fly := ([] : List Told) } : F3)⟩ (by dsimp only [po_rest3] <;> (first | (exfalso ; omega) | exact ⟨by exact ⟨(hinv.sub (fun _ h => by simp at h) (by simp)), Frz.refl _⟩, by first | rfl | exact hi7.2⟩))
  have hc10l : 0 < (((p.f.fly.drop (((Int.tmod ((Int.tmod p.i p.kk) + p.kk) p.kk) + (1 : Int)).toNat)).take (p.f.fly.length - (((Int.tmod ((Int.tmod p.i p.kk) + p.kk) p.kk) + (1 : Int)).toNat)))).length := List.length_pos_iff.2 hc10
  refine mustP (by simp [limP] ; omega) ?_
  refine ifP (fun hc13 => ?_) (fun hc13 => ?_)
  refine callPR (⟨({ p.f with fly := (p.f.fly.drop (((Int.tmod ((Int.tmod p.i p.kk) + p.kk) p.kk) + (1 : Int)).toNat)).take (p.f.fly.length - (((Int.tmod ((Int.tmod p.i p.kk) + p.kk) p.kk) + (1 : Int)).toNat)) } : F3), ⟨x1.to, x1.fr, x1.c, x1.h, x1.l⟩⟩ : A_come3) rfl (by (try dsimp only [pre_come3]) ; exact ⟨(hinv.sub sub_one (by simp ; omega)), hm⟩) fun r2 hi14 => ?_
  dsimp only [po_come3] at hi14
  exact fin_rest3 hK ⟨r2.f⟩ (by dsimp only [po_rest3] <;> (first | (exfalso ; omega) | exact ⟨by exact hi14.1, by first | rfl | exact hi14.2⟩))
  exact fin_rest3 hK ⟨({ p.f with fly := (p.f.fly.drop (((Int.tmod ((Int.tmod p.i p.kk) + p.kk) p.kk) + (1 : Int)).toNat)).take (p.f.fly.length - (((Int.tmod ((Int.tmod p.i p.kk) + p.kk) p.kk) + (1 : Int)).toNat)) } : F3)⟩ (by dsimp only [po_rest3] <;> (first | (exfalso ; omega) | exact ⟨by exact ⟨(hinv.sub sub_one (by simp ; omega)), Frz.refl _⟩, by first | rfl | exact hi7.2⟩))
  have hc9l : 0 < (((p.f.fly.drop 0).take (((Int.tmod ((Int.tmod p.i p.kk) + p.kk) p.kk).toNat) - 0))).length := List.length_pos_iff.2 hc9
  refine mustP (by simp [limP] ; omega) ?_
  refine mustP (rfl) ?_
  refine mustP (by first | omega | (simp ; omega)) ?_
  refine mustP (rfl) ?_
  refine mustP (by (first | omega | (simp [limP] <;> omega))) ?_
  refine mustP (rfl) ?_
  refine ifP (fun hc15 => ?_) (fun hc15 => ?_)
  have hc15l : (((p.f.fly.drop (((Int.tmod ((Int.tmod p.i p.kk) + p.kk) p.kk) + (1 : Int)).toNat)).take (p.f.fly.length - (((Int.tmod ((Int.tmod p.i p.kk) + p.kk) p.kk) + (1 : Int)).toNat)))).length = 0 := (by rw [hc15] ; rfl)
  refine ifP (fun hc16 => ?_) (fun hc16 => ?_)
  refine callPR (⟨({ p.f with fly := (p.f.fly.drop 0).take (((Int.tmod ((Int.tmod p.i p.kk) + p.kk) p.kk).toNat) - 0) } : F3), ⟨x1.to, x1.fr, x1.c, x1.h, x1.l⟩⟩ : A_come3) rfl (by (try dsimp only [pre_come3]) ; exact ⟨(hinv.sub sub_one (by simp ; omega)), hm⟩) fun r4 hi17 => ?_
  dsimp only [po_come3] at hi17
  exact fin_rest3 hK ⟨r4.f⟩ (by dsimp only [po_rest3] <;> (first | (exfalso ; omega) | exact ⟨by exact hi17.1, by first | rfl | exact hi17.2⟩))
  exact fin_rest3 hK ⟨({ p.f with fly := (p.f.fly.drop 0).take (((Int.tmod ((Int.tmod p.i p.kk) + p.kk) p.kk).toNat) - 0) } : F3)⟩ (by dsimp only [po_rest3] <;> (first | (exfalso ; omega) | exact ⟨by exact ⟨(hinv.sub sub_one (by simp ; omega)), Frz.refl _⟩, by first | rfl | exact hi7.2⟩))
  have hc15l : 0 < (((p.f.fly.drop (((Int.tmod ((Int.tmod p.i p.kk) + p.kk) p.kk) + (1 : Int)).toNat)).take (p.f.fly.length - (((Int.tmod ((Int.tmod p.i p.kk) + p.kk) p.kk) + (1 : Int)).toNat)))).length := List.length_pos_iff.2 hc15
  refine exB_mk ((p.f.fly.drop (((Int.tmod ((Int.tmod p.i p.kk) + p.kk) p.kk) + (1 : Int)).toNat)).take (p.f.fly.length - (((Int.tmod ((Int.tmod p.i p.kk) + p.kk) p.kk) + (1 : Int)).toNat))) ?_
  refine mustP (show rowsR (((p.f.fly.drop (((Int.tmod ((Int.tmod p.i p.kk) + p.kk) p.kk) + (1 : Int)).toNat)).take (p.f.fly.length - (((Int.tmod ((Int.tmod p.i p.kk) + p.kk) p.kk) + (1 : Int)).toNat))).map encT) (((p.f.fly.drop (((Int.tmod ((Int.tmod p.i p.kk) + p.kk) p.kk) + (1 : Int)).toNat)).take (p.f.fly.length - (((Int.tmod ((Int.tmod p.i p.kk) + p.kk) p.kk) + (1 : Int)).toNat))).map encT) from rowsR_refl _) ?_
  refine mustP (by simp [limP] ; omega) ?_
  refine ifP (fun hc18 => ?_) (fun hc18 => ?_)
  refine callPR (⟨({ p.f with fly := ((p.f.fly.drop 0).take (((Int.tmod ((Int.tmod p.i p.kk) + p.kk) p.kk).toNat) - 0)) ++ ((p.f.fly.drop (((Int.tmod ((Int.tmod p.i p.kk) + p.kk) p.kk) + (1 : Int)).toNat)).take (p.f.fly.length - (((Int.tmod ((Int.tmod p.i p.kk) + p.kk) p.kk) + (1 : Int)).toNat))) } : F3), ⟨x1.to, x1.fr, x1.c, x1.h, x1.l⟩⟩ : A_come3) rfl (by (try dsimp only [pre_come3]) ; exact ⟨(hinv.sub sub_cut (by simp ; omega)), hm⟩) fun r3 hi19 => ?_
  dsimp only [po_come3] at hi19
  exact fin_rest3 hK ⟨r3.f⟩ (by dsimp only [po_rest3] <;> (first | (exfalso ; omega) | exact ⟨by exact hi19.1, by first | rfl | exact hi19.2⟩))
  exact fin_rest3 hK ⟨({ p.f with fly := ((p.f.fly.drop 0).take (((Int.tmod ((Int.tmod p.i p.kk) + p.kk) p.kk).toNat) - 0)) ++ ((p.f.fly.drop (((Int.tmod ((Int.tmod p.i p.kk) + p.kk) p.kk) + (1 : Int)).toNat)).take (p.f.fly.length - (((Int.tmod ((Int.tmod p.i p.kk) + p.kk) p.kk) + (1 : Int)).toNat))) } : F3)⟩ (by dsimp only [po_rest3] <;> (first | (exfalso ; omega) | exact ⟨by exact ⟨(hinv.sub sub_cut (by simp ; omega)), Frz.refl _⟩, by first | rfl | exact hi7.2⟩))
  refine ifP (fun hc20 => ?_) (fun hc20 => ?_)
  refine callPR (⟨p.f, ⟨x1.to, x1.fr, x1.c, x1.h, x1.l⟩⟩ : A_come3) rfl (by (try dsimp only [pre_come3]) ; exact ⟨hinv, hm⟩) fun r5 hi21 => ?_
  dsimp only [po_come3] at hi21
  exact fin_rest3 hK ⟨r5.f⟩ (by dsimp only [po_rest3] <;> (first | (exfalso ; omega) | exact ⟨by exact hi21.1, by first | rfl | exact hi21.2⟩))
  exact fin_rest3 hK ⟨p.f⟩ (by dsimp only [po_rest3] <;> (first | (exfalso ; omega) | exact ⟨by exact ⟨hinv, Frz.refl _⟩, by first | rfl | exact hi7.2⟩))
  exact fin_rest3 hK ⟨p.f⟩ (by dsimp only [po_rest3] <;> (first | (exfalso ; omega) | exact ⟨by exact ⟨hinv, Frz.refl _⟩, by first | rfl | exact hi0.2⟩))
  exact fin_rest3 hK ⟨p.f⟩ (by dsimp only [po_rest3] <;> (first | (exfalso ; omega) | exact ⟨by exact ⟨hinv, Frz.refl _⟩, by first | rfl | exact hi0.2⟩))
theorem lo_rest3 : LpOk Try.prog 203 1 lp_step3 false 0 bd_rest3 := by
  refine sp_of (lf := 600) tb_mix (cfT_ok nat_come3_ok) (by rfl) (fun b j x h => by cases h) (fun S M nx K h => ?_)
  obtain ⟨p, h⟩ := exB_ok h
  obtain ⟨e, h9⟩ := mustP_ok h
  clear h
  have e1 : S = (I_rest3 p).1 := congrArg Prod.fst e
  have e2 : M = (I_rest3 p).2.1 := congrArg (fun x => x.2.1) e
  have e3 : nx = (I_rest3 p).2.2 := congrArg (fun x => x.2.2) e
  subst e1; subst e2; subst e3
  exact vb_rest3 p K (mustP_ok h9).1 (mustP_ok h9).2
structure A_step3 where
  f : F3
  k : Int
  x : Int
  nn : Int
  i : Int
structure R_step3 where
  f : F3
def po_step3 (p : A_step3) (r : R_step3) : Prop := (FI3 r.f ∧ Fr3 p.f r.f) ∧ 0 ≤ r.f.cnt ∧ r.f.cnt ≤ p.f.cnt + 1
noncomputable def I_step3 (p : A_step3) : IE := ([.ptr 0 0, .agg [.sy (.int 0 p.k), .sy (.int 0 p.x), .sy (.int 0 p.nn), .sy (.int 0 p.i)]], (Fd3n p.f), 15)
noncomputable def out_step3 (p : A_step3) (K : KE) : Bool := allB fun r : R_step3 => ifB (prB (po_step3 p r)) (K (.tup []) (Fd3n r.f) 15) true
def pre_step3 (p : A_step3) : Prop := FI3 p.f ∧ 0 ≤ p.f.cnt ∧ p.f.cnt ≤ 1000000
theorem fin_step3 {p : A_step3} {K : KE} (hK : out_step3 p K = true) (r : R_step3) (h : po_step3 p r) : K (.tup []) (Fd3n r.f) 15 = true := ifB_use h (allB_ok hK r)
theorem vf_step3 (p : A_step3) (K : KE) (hpre : pre_step3 p) (hK : out_step3 p K = true) : (funE 1 (cfT nat_come3) lp_step3 600 ft_step3 (I_step3 p).1 (I_step3 p).2.1 (I_step3 p).2.2 K) = true := by
  refine Eq.trans (b := (let y0 : Int := (Int.tmod ((Int.tmod p.x (3 : Int)) + (3 : Int)) (3 : Int)); let y1 : Int := ((Int.tmod p.nn (3 : Int)) + (3 : Int)); must (prB ((3 : Int) ≠ 0)) (must (prB (InR 0 ((Int.tmod p.x (3 : Int)) + (3 : Int)))) (must (prB ((3 : Int) ≠ 0)) (ifB (prB (p.k = (0 : Int))) (must (prB (InR 0 (p.f.cnt + (1 : Int)))) (must (prB ((16 : Int) ≠ 0)) (must (prB (InR 1 (Int.tmod (p.f.cnt + (1 : Int)) (16 : Int)))) (exB fun p1 : A_add3 => must (prB (([.ptr 0 0, .agg [.int 1 (.ofNat 2), .int 1 (.ofNat 0), .int 2 (.ofNat 0), .int 3 (.ofNat 0), .int 1 (.ofNat 0), .int 1 (.ofNat 0), .int 1 (.ofNat 0), .int 1 (.ofNat 0), .int 1 (.ofNat 0), .int 1 (.ofNat 0), .int 1 (.ofNat 0), .int 3 (.ofNat 0), .nilS, .int 1 (.ofNat 0), .str [], .nilS, .sy (.int 1 (Int.tmod (p.f.cnt + (1 : Int)) (16 : Int))), .int 2 (.ofNat 1)]], (Ro3n p.f.s0.l p.f.s0.com p.f.s0.sh p.f.c0 p.f.c1 p.f.c2), 4) = I_add3 p1)) (must (prB (pre_add3 p1)) (allB fun r1 : R_add3 => ifB (prB (po_add3 p1 r1)) (K (.tup []) (Fd3n ⟨⟨r1.l, r1.com, p1.sh⟩, p.f.s1, p.f.s2, r1.c0, p1.c1, p1.c2, p.f.fly, p.f.cnt + (1 : Int)⟩) 15) true)))))) (ifB (prB (p.k = (1 : Int))) (ifB (prB ((0 : Int) < y0)) (ifB (prB ((p.f.fly.length : Int) < (100 : Int))) (must (prB ((3 : Int) ≠ 0)) (must (prB (InR 0 y1)) (must (prB ((3 : Int) ≠ 0)) (must (prB (InR 0 ((1 : Int) + (Int.tmod y1 (3 : Int))))) (must (prB (InR 1 y0)) (must (prB (((.int 0 p.nn) : SY) = (.int 0 p.nn))) (exB fun p2 : A_since3 => must (prB (([.ptr 0 0, .agg [.sy (.int 1 y0), .int 2 (.ofNat 1)], .sy (.int 0 ((1 : Int) + (Int.tmod y1 (3 : Int))))], (Ro3n p.f.s0.l p.f.s0.com p.f.s0.sh p.f.c0 p.f.c1 p.f.c2), 4) = I_since3 p2)) (must (prB (pre_since3 p2)) (allB fun r2 : R_since3 => ifB (prB (po_since3 p2 r2)) (must (prB (((.prow 2 p.f.fly.length) : SY) = (.prow 2 p.f.fly.length))) (must (prB (((.prow 2 p.f.fly.length) : SY) = (.prow 2 p.f.fly.length))) (must (prB (p.f.fly.length = p.f.fly.length)) (exB fun m1 : List Told => must (prB (rowsR (m1.map encT) [[.sint 0 y0, .sint 0 r2.fr, .sint 0 p2.com, .imm r2.h 18 Int r2.o encK]])) (must (prB (limP 48 (p.f.fly.length + m1.length))) (K (.tup []) (Fd3 ⟨⟨p2.l, p2.com, p2.sh⟩, p.f.s1, p.f.s2, p2.c0, p2.c1, p2.c2, p.f.fly ++ m1, p.f.cnt⟩ ((p.f.fly ++ m1).length) p2.l.length p.f.s1.l.length p.f.s2.l.length) 15)))))) true))))))))) (ifB (prB (p.k = (2 : Int))) (ifB (prB ((0 : Int) < y0)) (ifB (prB ((p.f.fly.length : Int) < (100 : Int))) (ifB (prB (y0 = 0)) (must (prB (((.prow 2 p.f.fly.length) : SY) = (.prow 2 p.f.fly.length))) (must (prB (((.prow 2 p.f.fly.length) : SY) = (.prow 2 p.f.fly.length))) (must (prB (p.f.fly.length = p.f.fly.length)) (exB fun m4 : List Told => must (prB (rowsR (m4.map encT) [[.int 0 (.ofNat 0), .sint 0 (p.f.s0.l.length : Int), .sint 0 y0, .nilS]])) (must (prB (limP 48 (p.f.fly.length + m4.length))) (K (.tup []) (Fd3 ({ p.f with fly := p.f.fly ++ m4 } : F3) ((p.f.fly ++ m4).length) p.f.s0.l.length p.f.s1.l.length p.f.s2.l.length) 15)))))) (ifB (prB (y0 = 1)) (must (prB (((.prow 2 p.f.fly.length) : SY) = (.prow 2 p.f.fly.length))) (must (prB (((.prow 2 p.f.fly.length) : SY) = (.prow 2 p.f.fly.length))) (must (prB (p.f.fly.length = p.f.fly.length)) (exB fun m3 : List Told => must (prB (rowsR (m3.map encT) [[.int 0 (.ofNat 0), .sint 0 (p.f.s1.l.length : Int), .sint 0 y0, .nilS]])) (must (prB (limP 48 (p.f.fly.length + m3.length))) (K (.tup []) (Fd3 ({ p.f with fly := p.f.fly ++ m3 } : F3) ((p.f.fly ++ m3).length) p.f.s0.l.length p.f.s1.l.length p.f.s2.l.length) 15)))))) (ifB (prB (y0 = 2)) (must (prB (((.prow 2 p.f.fly.length) : SY) = (.prow 2 p.f.fly.length))) (must (prB (((.prow 2 p.f.fly.length) : SY) = (.prow 2 p.f.fly.length))) (must (prB (p.f.fly.length = p.f.fly.length)) (exB fun m2 : List Told => must (prB (rowsR (m2.map encT) [[.int 0 (.ofNat 0), .sint 0 (p.f.s2.l.length : Int), .sint 0 y0, .nilS]])) (must (prB (limP 48 (p.f.fly.length + m2.length))) (K (.tup []) (Fd3 ({ p.f with fly := p.f.fly ++ m2 } : F3) ((p.f.fly ++ m2).length) p.f.s0.l.length p.f.s1.l.length p.f.s2.l.length) 15)))))) (must (prB (False)) (true))))) (exB fun p3 : A_rest3 => must (prB (((.cons 5 (.sy (.int 0 (p.f.fly.length : Int))) (.cons 4 (.sy (.int 0 y0)) (.cons 3 (.ptr 1 0) (.cons 0 (.ptr 0 0) .nil)))), (Fb3n p.f p.k p.x p.nn p.i), 16) = I_rest3 p3)) (must (prB (pre_rest3 p3)) (allB fun r3 : R_rest3 => ifB (prB (po_rest3 p3 r3)) (K (.tup []) (Fd3n r3.f) 15) true)))) (exB fun p4 : A_rest3 => must (prB (((.cons 5 (.sy (.int 0 (p.f.fly.length : Int))) (.cons 4 (.sy (.int 0 y0)) (.cons 3 (.ptr 1 0) (.cons 0 (.ptr 0 0) .nil)))), (Fb3n p.f p.k p.x p.nn p.i), 16) = I_rest3 p4)) (must (prB (pre_rest3 p4)) (allB fun r4 : R_rest3 => ifB (prB (po_rest3 p4 r4)) (K (.tup []) (Fd3n r4.f) 15) true)))) (exB fun p5 : A_rest3 => must (prB (((.cons 5 (.sy (.int 0 (p.f.fly.length : Int))) (.cons 4 (.sy (.int 0 y0)) (.cons 3 (.ptr 1 0) (.cons 0 (.ptr 0 0) .nil)))), (Fb3n p.f p.k p.x p.nn p.i), 16) = I_rest3 p5)) (must (prB (pre_rest3 p5)) (allB fun r5 : R_rest3 => ifB (prB (po_rest3 p5 r5)) (K (.tup []) (Fd3n r5.f) 15) true))))) (ifB (prB (p.k = (2 : Int))) (ifB (prB ((0 : Int) < y0)) (ifB (prB ((p.f.fly.length : Int) < (100 : Int))) (ifB (prB (y0 = 0)) (must (prB (((.prow 2 p.f.fly.length) : SY) = (.prow 2 p.f.fly.length))) (must (prB (((.prow 2 p.f.fly.length) : SY) = (.prow 2 p.f.fly.length))) (must (prB (p.f.fly.length = p.f.fly.length)) (exB fun m7 : List Told => must (prB (rowsR (m7.map encT) [[.int 0 (.ofNat 0), .sint 0 (p.f.s0.l.length : Int), .sint 0 y0, .nilS]])) (must (prB (limP 48 (p.f.fly.length + m7.length))) (K (.tup []) (Fd3 ({ p.f with fly := p.f.fly ++ m7 } : F3) ((p.f.fly ++ m7).length) p.f.s0.l.length p.f.s1.l.length p.f.s2.l.length) 15)))))) (ifB (prB (y0 = 1)) (must (prB (((.prow 2 p.f.fly.length) : SY) = (.prow 2 p.f.fly.length))) (must (prB (((.prow 2 p.f.fly.length) : SY) = (.prow 2 p.f.fly.length))) (must (prB (p.f.fly.length = p.f.fly.length)) (exB fun m6 : List Told => must (prB (rowsR (m6.map encT) [[.int 0 (.ofNat 0), .sint 0 (p.f.s1.l.length : Int), .sint 0 y0, .nilS]])) (must (prB (limP 48 (p.f.fly.length + m6.length))) (K (.tup []) (Fd3 ({ p.f with fly := p.f.fly ++ m6 } : F3) ((p.f.fly ++ m6).length) p.f.s0.l.length p.f.s1.l.length p.f.s2.l.length) 15)))))) (ifB (prB (y0 = 2)) (must (prB (((.prow 2 p.f.fly.length) : SY) = (.prow 2 p.f.fly.length))) (must (prB (((.prow 2 p.f.fly.length) : SY) = (.prow 2 p.f.fly.length))) (must (prB (p.f.fly.length = p.f.fly.length)) (exB fun m5 : List Told => must (prB (rowsR (m5.map encT) [[.int 0 (.ofNat 0), .sint 0 (p.f.s2.l.length : Int), .sint 0 y0, .nilS]])) (must (prB (limP 48 (p.f.fly.length + m5.length))) (K (.tup []) (Fd3 ({ p.f with fly := p.f.fly ++ m5 } : F3) ((p.f.fly ++ m5).length) p.f.s0.l.length p.f.s1.l.length p.f.s2.l.length) 15)))))) (must (prB (False)) (true))))) (exB fun p6 : A_rest3 => must (prB (((.cons 5 (.sy (.int 0 (p.f.fly.length : Int))) (.cons 4 (.sy (.int 0 y0)) (.cons 3 (.ptr 1 0) (.cons 0 (.ptr 0 0) .nil)))), (Fb3n p.f p.k p.x p.nn p.i), 16) = I_rest3 p6)) (must (prB (pre_rest3 p6)) (allB fun r6 : R_rest3 => ifB (prB (po_rest3 p6 r6)) (K (.tup []) (Fd3n r6.f) 15) true)))) (exB fun p7 : A_rest3 => must (prB (((.cons 5 (.sy (.int 0 (p.f.fly.length : Int))) (.cons 4 (.sy (.int 0 y0)) (.cons 3 (.ptr 1 0) (.cons 0 (.ptr 0 0) .nil)))), (Fb3n p.f p.k p.x p.nn p.i), 16) = I_rest3 p7)) (must (prB (pre_rest3 p7)) (allB fun r7 : R_rest3 => ifB (prB (po_rest3 p7 r7)) (K (.tup []) (Fd3n r7.f) 15) true)))) (exB fun p8 : A_rest3 => must (prB (((.cons 5 (.sy (.int 0 (p.f.fly.length : Int))) (.cons 4 (.sy (.int 0 y0)) (.cons 3 (.ptr 1 0) (.cons 0 (.ptr 0 0) .nil)))), (Fb3n p.f p.k p.x p.nn p.i), 16) = I_rest3 p8)) (must (prB (pre_rest3 p8)) (allB fun r8 : R_rest3 => ifB (prB (po_rest3 p8 r8)) (K (.tup []) (Fd3n r8.f) 15) true))))) (ifB (prB (p.k = (2 : Int))) (ifB (prB ((0 : Int) < y0)) (ifB (prB ((p.f.fly.length : Int) < (100 : Int))) (ifB (prB (y0 = 0)) (must (prB (((.prow 2 p.f.fly.length) : SY) = (.prow 2 p.f.fly.length))) (must (prB (((.prow 2 p.f.fly.length) : SY) = (.prow 2 p.f.fly.length))) (must (prB (p.f.fly.length = p.f.fly.length)) (exB fun m10 : List Told => must (prB (rowsR (m10.map encT) [[.int 0 (.ofNat 0), .sint 0 (p.f.s0.l.length : Int), .sint 0 y0, .nilS]])) (must (prB (limP 48 (p.f.fly.length + m10.length))) (K (.tup []) (Fd3 ({ p.f with fly := p.f.fly ++ m10 } : F3) ((p.f.fly ++ m10).length) p.f.s0.l.length p.f.s1.l.length p.f.s2.l.length) 15)))))) (ifB (prB (y0 = 1)) (must (prB (((.prow 2 p.f.fly.length) : SY) = (.prow 2 p.f.fly.length))) (must (prB (((.prow 2 p.f.fly.length) : SY) = (.prow 2 p.f.fly.length))) (must (prB (p.f.fly.length = p.f.fly.length)) (exB fun m9 : List Told => must (prB (rowsR (m9.map encT) [[.int 0 (.ofNat 0), .sint 0 (p.f.s1.l.length : Int), .sint 0 y0, .nilS]])) (must (prB (limP 48 (p.f.fly.length + m9.length))) (K (.tup []) (Fd3 ({ p.f with fly := p.f.fly ++ m9 } : F3) ((p.f.fly ++ m9).length) p.f.s0.l.length p.f.s1.l.length p.f.s2.l.length) 15)))))) (ifB (prB (y0 = 2)) (must (prB (((.prow 2 p.f.fly.length) : SY) = (.prow 2 p.f.fly.length))) (must (prB (((.prow 2 p.f.fly.length) : SY) = (.prow 2 p.f.fly.length))) (must (prB (p.f.fly.length = p.f.fly.length)) (exB fun m8 : List Told => must (prB (rowsR (m8.map encT) [[.int 0 (.ofNat 0), .sint 0 (p.f.s2.l.length : Int), .sint 0 y0, .nilS]])) (must (prB (limP 48 (p.f.fly.length + m8.length))) (K (.tup []) (Fd3 ({ p.f with fly := p.f.fly ++ m8 } : F3) ((p.f.fly ++ m8).length) p.f.s0.l.length p.f.s1.l.length p.f.s2.l.length) 15)))))) (must (prB (False)) (true))))) (exB fun p9 : A_rest3 => must (prB (((.cons 5 (.sy (.int 0 (p.f.fly.length : Int))) (.cons 4 (.sy (.int 0 y0)) (.cons 3 (.ptr 1 0) (.cons 0 (.ptr 0 0) .nil)))), (Fb3n p.f p.k p.x p.nn p.i), 16) = I_rest3 p9)) (must (prB (pre_rest3 p9)) (allB fun r9 : R_rest3 => ifB (prB (po_rest3 p9 r9)) (K (.tup []) (Fd3n r9.f) 15) true)))) (exB fun p10 : A_rest3 => must (prB (((.cons 5 (.sy (.int 0 (p.f.fly.length : Int))) (.cons 4 (.sy (.int 0 y0)) (.cons 3 (.ptr 1 0) (.cons 0 (.ptr 0 0) .nil)))), (Fb3n p.f p.k p.x p.nn p.i), 16) = I_rest3 p10)) (must (prB (pre_rest3 p10)) (allB fun r10 : R_rest3 => ifB (prB (po_rest3 p10 r10)) (K (.tup []) (Fd3n r10.f) 15) true)))) (exB fun p11 : A_rest3 => must (prB (((.cons 5 (.sy (.int 0 (p.f.fly.length : Int))) (.cons 4 (.sy (.int 0 y0)) (.cons 3 (.ptr 1 0) (.cons 0 (.ptr 0 0) .nil)))), (Fb3n p.f p.k p.x p.nn p.i), 16) = I_rest3 p11)) (must (prB (pre_rest3 p11)) (allB fun r11 : R_rest3 => ifB (prB (po_rest3 p11 r11)) (K (.tup []) (Fd3n r11.f) 15) true)))))))))) (by kernel_rfl) ?_
  dsimp only [pre_step3] at hpre
  obtain ⟨hinv, k1, k2⟩ := hpre
  have hinv : FInv p.f.s0 _ _ p.f.fly := hinv
  have hs : p.f.s0.l.length ≤ 400 := hinv.short
  have hfew : p.f.fly.length ≤ 100 := hinv.few
  have f0 : p.f.c0 ≤ (p.f.s0.l.length : Int) ∧ 0 ≤ p.f.c0 ∧ p.f.s0.l.length ≤ p.f.s0.l.length := ⟨(hinv.each 0 _ _ rfl rfl).cl, (hinv.each 0 _ _ rfl rfl).c0, (hinv.each 0 _ _ rfl rfl).len⟩
  have f1 : p.f.c1 ≤ (p.f.s1.l.length : Int) ∧ 0 ≤ p.f.c1 ∧ p.f.s1.l.length ≤ p.f.s0.l.length := ⟨(hinv.each 1 _ _ rfl rfl).cl, (hinv.each 1 _ _ rfl rfl).c0, (hinv.each 1 _ _ rfl rfl).len⟩
  have f2 : p.f.c2 ≤ (p.f.s2.l.length : Int) ∧ 0 ≤ p.f.c2 ∧ p.f.s2.l.length ≤ p.f.s0.l.length := ⟨(hinv.each 2 _ _ rfl rfl).cl, (hinv.each 2 _ _ rfl rfl).c0, (hinv.each 2 _ _ rfl rfl).len⟩
  have t1 := tmb 3 (by decide) p.x
  have t2 := tmp 3 (by decide) (p.x.tmod 3 + 3) (by omega)
  have t3 := tmb 3 (by decide) p.nn
  have t4 := tmp 3 (by decide) (p.nn.tmod 3 + 3) (by omega)
  have t5 := tmp 16 (by decide) (p.f.cnt + 1) (by omega)
  refine mustP (by decide) ?_
  refine mustP (by simp only [InR] ; omega) ?_
  refine mustP (by decide) ?_
  refine ifP (fun hc1 => ?_) (fun hc1 => ?_)
  refine mustP (by simp only [InR] ; omega) ?_
  refine mustP (by decide) ?_
  refine mustP (by simp only [InR] ; omega) ?_
  refine callPR (⟨p.f.s0.l, p.f.s0.com, p.f.s0.sh, p.f.c0, p.f.c1, p.f.c2, Int.tmod (p.f.cnt + (1 : Int)) (16 : Int)⟩ : A_add3) rfl (by (try dsimp only [pre_add3]) ; omega) fun r1 hi2 => ?_
  dsimp only [po_add3] at hi2
  exact fin_step3 hK ⟨⟨⟨r1.l, r1.com, p.f.s0.sh⟩, p.f.s1, p.f.s2, r1.c0, p.f.c1, p.f.c2, p.f.fly, p.f.cnt + (1 : Int)⟩⟩ (by dsimp only [po_step3] <;> (refine ⟨?_, by omega, by omega⟩ ; first | (exfalso ; omega) | exact tr_add (maj := 2) hinv (by simp) (by assumption)))
  refine ifP (fun hc3 => ?_) (fun hc3 => ?_)
  refine ifP (fun hc4 => ?_) (fun hc4 => ?_)
  refine ifP (fun hc5 => ?_) (fun hc5 => ?_)
  refine mustP (by decide) ?_
  refine mustP (by simp only [InR] ; omega) ?_
  refine mustP (by decide) ?_
  refine mustP (by simp only [InR] ; omega) ?_
  refine mustP (by simp only [InR] ; omega) ?_
  refine mustP (rfl) ?_
  refine callPR (⟨p.f.s0.l, p.f.s0.com, p.f.s0.sh, p.f.c0, p.f.c1, p.f.c2, Int.tmod ((Int.tmod p.x (3 : Int)) + (3 : Int)) (3 : Int), (1 : Int) + (Int.tmod ((Int.tmod p.nn (3 : Int)) + (3 : Int)) (3 : Int))⟩ : A_since3) rfl (by (try dsimp only [pre_since3]) ; omega) fun r2 hi6 => ?_
  dsimp only [po_since3] at hi6
  refine mustP (rfl) ?_
  refine mustP (rfl) ?_
  refine mustP (rfl) ?_
  refine exB_mk [⟨Int.tmod ((Int.tmod p.x (3 : Int)) + (3 : Int)) (3 : Int), r2.fr, p.f.s0.com, r2.h, r2.o⟩] ?_
  refine mustP (show rowsR ([⟨Int.tmod ((Int.tmod p.x (3 : Int)) + (3 : Int)) (3 : Int), r2.fr, p.f.s0.com, r2.h, r2.o⟩].map encT) [[.sint 0 (Int.tmod ((Int.tmod p.x (3 : Int)) + (3 : Int)) (3 : Int)), .sint 0 r2.fr, .sint 0 p.f.s0.com, .imm r2.h 18 Int r2.o encK]] from ⟨⟨.inl rfl, ⟨.inl rfl, ⟨.inl rfl, ⟨.inl rfl, trivial⟩⟩⟩⟩, trivial⟩) ?_
  refine mustP (by simp [limP] ; omega) ?_
  exact fin_step3 hK ⟨⟨⟨p.f.s0.l, p.f.s0.com, p.f.s0.sh⟩, p.f.s1, p.f.s2, p.f.c0, p.f.c1, p.f.c2, p.f.fly ++ [⟨Int.tmod ((Int.tmod p.x (3 : Int)) + (3 : Int)) (3 : Int), r2.fr, p.f.s0.com, r2.h, r2.o⟩], p.f.cnt⟩⟩ (by dsimp only [po_step3] <;> (refine ⟨?_, by omega, by omega⟩ ; first | (exfalso ; omega) | exact ⟨tr_since (m := 3) hinv (by omega) (by simp) (by omega) (by assumption), Frz.refl _⟩))
  refine ifP (fun hc7 => ?_) (fun hc7 => ?_)
  refine ifP (fun hc8 => ?_) (fun hc8 => ?_)
  refine ifP (fun hc9 => ?_) (fun hc9 => ?_)
  refine ifP (fun hc10 => ?_) (fun hc10 => ?_)
  refine mustP (rfl) ?_
  refine mustP (rfl) ?_
  refine mustP (rfl) ?_
  refine exB_mk [⟨(0 : Int), (p.f.s0.l.length : Int), Int.tmod ((Int.tmod p.x (3 : Int)) + (3 : Int)) (3 : Int), (.slice none 0 0), []⟩] ?_
  refine mustP (show rowsR ([⟨(0 : Int), (p.f.s0.l.length : Int), Int.tmod ((Int.tmod p.x (3 : Int)) + (3 : Int)) (3 : Int), (.slice none 0 0), []⟩].map encT) [[.int 0 (.ofNat 0), .sint 0 (p.f.s0.l.length : Int), .sint 0 (Int.tmod ((Int.tmod p.x (3 : Int)) + (3 : Int)) (3 : Int)), .nilS]] from ⟨⟨.inr (.inl ⟨_, _, rfl, rfl⟩), ⟨.inl rfl, ⟨.inl rfl, ⟨.inr (.inr ⟨_, _, _, by decide, rfl, rfl⟩), trivial⟩⟩⟩⟩, trivial⟩) ?_
  refine mustP (by simp [limP] ; omega) ?_
  exact fin_step3 hK ⟨({ p.f with fly := p.f.fly ++ [⟨(0 : Int), (p.f.s0.l.length : Int), Int.tmod ((Int.tmod p.x (3 : Int)) + (3 : Int)) (3 : Int), (.slice none 0 0), []⟩] } : F3)⟩ (by dsimp only [po_step3] <;> (refine ⟨?_, by omega, by omega⟩ ; first | (exfalso ; omega) | exact ⟨tr_len (j := 0) hinv (by omega) rfl (by omega) rfl, Frz.refl _⟩ | exact ⟨tr_len (j := 1) hinv (by omega) rfl (by omega) rfl, Frz.refl _⟩ | exact ⟨tr_len (j := 2) hinv (by omega) rfl (by omega) rfl, Frz.refl _⟩))
  refine ifP (fun hc11 => ?_) (fun hc11 => ?_)
  refine mustP (rfl) ?_
  refine mustP (rfl) ?_
  refine mustP (rfl) ?_
  refine exB_mk [⟨(0 : Int), (p.f.s1.l.length : Int), Int.tmod ((Int.tmod p.x (3 : Int)) + (3 : Int)) (3 : Int), (.slice none 0 0), []⟩] ?_
  refine mustP (show rowsR ([⟨(0 : Int), (p.f.s1.l.length : Int), Int.tmod ((Int.tmod p.x (3 : Int)) + (3 : Int)) (3 : Int), (.slice none 0 0), []⟩].map encT) [[.int 0 (.ofNat 0), .sint 0 (p.f.s1.l.length : Int), .sint 0 (Int.tmod ((Int.tmod p.x (3 : Int)) + (3 : Int)) (3 : Int)), .nilS]] from ⟨⟨.inr (.inl ⟨_, _, rfl, rfl⟩), ⟨.inl rfl, ⟨.inl rfl, ⟨.inr (.inr ⟨_, _, _, by decide, rfl, rfl⟩), trivial⟩⟩⟩⟩, trivial⟩) ?_
  refine mustP (by simp [limP] ; omega) ?_
  exact fin_step3 hK ⟨({ p.f with fly := p.f.fly ++ [⟨(0 : Int), (p.f.s1.l.length : Int), Int.tmod ((Int.tmod p.x (3 : Int)) + (3 : Int)) (3 : Int), (.slice none 0 0), []⟩] } : F3)⟩ (by dsimp only [po_step3] <;> (refine ⟨?_, by omega, by omega⟩ ; first | (exfalso ; omega) | exact ⟨tr_len (j := 0) hinv (by omega) rfl (by omega) rfl, Frz.refl _⟩ | exact ⟨tr_len (j := 1) hinv (by omega) rfl (by omega) rfl, Frz.refl _⟩ | exact ⟨tr_len (j := 2) hinv (by omega) rfl (by omega) rfl, Frz.refl _⟩))
  refine ifP (fun hc12 => ?_) (fun hc12 => ?_)
  refine mustP (rfl) ?_
  refine mustP (rfl) ?_
  refine mustP (rfl) ?_
  refine exB_mk [⟨(0 : Int), (p.f.s2.l.length : Int), Int.tmod ((Int.tmod p.x (3 : Int)) + (3 : Int)) (3 : Int), (.slice none 0 0), []⟩] ?_
  refine mustP (show rowsR ([⟨(0 : Int), (p.f.s2.l.length : Int), Int.tmod ((Int.tmod p.x (3 : Int)) + (3 : Int)) (3 : Int), (.slice none 0 0), []⟩].map encT) [[.int 0 (.ofNat 0), .sint 0 (p.f.s2.l.length : Int), .sint 0 (Int.tmod ((Int.tmod p.x (3 : Int)) + (3 : Int)) (3 : Int)), .nilS]] from ⟨⟨.inr (.inl ⟨_, _, rfl, rfl⟩), ⟨.inl rfl, ⟨.inl rfl, ⟨.inr (.inr ⟨_, _, _, by decide, rfl, rfl⟩), trivial⟩⟩⟩⟩, trivial⟩) ?_
  refine mustP (by simp [limP] ; omega) ?_
  exact fin_step3 hK ⟨({ p.f with fly := p.f.fly ++ [⟨(0 : Int), (p.f.s2.l.length : Int), Int.tmod ((Int.tmod p.x (3 : Int)) + (3 : Int)) (3 : Int), (.slice none 0 0), []⟩] } : F3)⟩ (by dsimp only [po_step3] <;> (refine ⟨?_, by omega, by omega⟩ ; first | (exfalso ; omega) | exact ⟨tr_len (j := 0) hinv (by omega) rfl (by omega) rfl, Frz.refl _⟩ | exact ⟨tr_len (j := 1) hinv (by omega) rfl (by omega) rfl, Frz.refl _⟩ | exact ⟨tr_len (j := 2) hinv (by omega) rfl (by omega) rfl, Frz.refl _⟩))
  refine mustP (by omega) ?_
  rfl
  refine callPR (⟨p.f, p.k, p.x, p.nn, p.i, Int.tmod ((Int.tmod p.x (3 : Int)) + (3 : Int)) (3 : Int), (p.f.fly.length : Int)⟩ : A_rest3) rfl (by (try dsimp only [pre_rest3]) ; exact ⟨hinv, by omega, by omega, by omega, by omega, by omega⟩) fun r3 hi13 => ?_
  dsimp only [po_rest3] at hi13
  exact fin_step3 hK ⟨r3.f⟩ (by dsimp only [po_step3] <;> (refine ⟨?_, by omega, by omega⟩ ; first | (exfalso ; omega) | exact hi13.1))
  refine callPR (⟨p.f, p.k, p.x, p.nn, p.i, Int.tmod ((Int.tmod p.x (3 : Int)) + (3 : Int)) (3 : Int), (p.f.fly.length : Int)⟩ : A_rest3) rfl (by (try dsimp only [pre_rest3]) ; exact ⟨hinv, by omega, by omega, by omega, by omega, by omega⟩) fun r4 hi14 => ?_
  dsimp only [po_rest3] at hi14
  exact fin_step3 hK ⟨r4.f⟩ (by dsimp only [po_step3] <;> (refine ⟨?_, by omega, by omega⟩ ; first | (exfalso ; omega) | exact hi14.1))
  refine callPR (⟨p.f, p.k, p.x, p.nn, p.i, Int.tmod ((Int.tmod p.x (3 : Int)) + (3 : Int)) (3 : Int), (p.f.fly.length : Int)⟩ : A_rest3) rfl (by (try dsimp only [pre_rest3]) ; exact ⟨hinv, by omega, by omega, by omega, by omega, by omega⟩) fun r5 hi15 => ?_
  dsimp only [po_rest3] at hi15
  exact fin_step3 hK ⟨r5.f⟩ (by dsimp only [po_step3] <;> (refine ⟨?_, by omega, by omega⟩ ; first | (exfalso ; omega) | exact hi15.1))
  refine ifP (fun hc16 => ?_) (fun hc16 => ?_)
  refine ifP (fun hc17 => ?_) (fun hc17 => ?_)
  refine ifP (fun hc18 => ?_) (fun hc18 => ?_)
  refine ifP (fun hc19 => ?_) (fun hc19 => ?_)
  refine mustP (rfl) ?_
  refine mustP (rfl) ?_
  refine mustP (rfl) ?_
  refine exB_mk [⟨(0 : Int), (p.f.s0.l.length : Int), Int.tmod ((Int.tmod p.x (3 : Int)) + (3 : Int)) (3 : Int), (.slice none 0 0), []⟩] ?_
  refine mustP (show rowsR ([⟨(0 : Int), (p.f.s0.l.length : Int), Int.tmod ((Int.tmod p.x (3 : Int)) + (3 : Int)) (3 : Int), (.slice none 0 0), []⟩].map encT) [[.int 0 (.ofNat 0), .sint 0 (p.f.s0.l.length : Int), .sint 0 (Int.tmod ((Int.tmod p.x (3 : Int)) + (3 : Int)) (3 : Int)), .nilS]] from ⟨⟨.inr (.inl ⟨_, _, rfl, rfl⟩), ⟨.inl rfl, ⟨.inl rfl, ⟨.inr (.inr ⟨_, _, _, by decide, rfl, rfl⟩), trivial⟩⟩⟩⟩, trivial⟩) ?_
  refine mustP (by simp [limP] ; omega) ?_
  exact fin_step3 hK ⟨({ p.f with fly := p.f.fly ++ [⟨(0 : Int), (p.f.s0.l.length : Int), Int.tmod ((Int.tmod p.x (3 : Int)) + (3 : Int)) (3 : Int), (.slice none 0 0), []⟩] } : F3)⟩ (by dsimp only [po_step3] <;> (refine ⟨?_, by omega, by omega⟩ ; first | (exfalso ; omega) | exact ⟨tr_len (j := 0) hinv (by omega) rfl (by omega) rfl, Frz.refl _⟩ | exact ⟨tr_len (j := 1) hinv (by omega) rfl (by omega) rfl, Frz.refl _⟩ | exact ⟨tr_len (j := 2) hinv (by omega) rfl (by omega) rfl, Frz.refl _⟩))
  refine ifP (fun hc20 => ?_) (fun hc20 => ?_)
  refine mustP (rfl) ?_
  refine mustP (rfl) ?_
  refine mustP (rfl) ?_
  refine exB_mk [⟨(0 : Int), (p.f.s1.l.length : Int), Int.tmod ((Int.tmod p.x (3 : Int)) + (3 : Int)) (3 : Int), (.slice none 0 0), []⟩] ?_
  refine mustP (show rowsR ([⟨(0 : Int), (p.f.s1.l.length : Int), Int.tmod ((Int.tmod p.x (3 : Int)) + (3 : Int)) (3 : Int), (.slice none 0 0), []⟩].map encT) [[.int 0 (.ofNat 0), .sint 0 (p.f.s1.l.length : Int), .sint 0 (Int.tmod ((Int.tmod p.x (3 : Int)) + (3 : Int)) (3 : Int)), .nilS]] from ⟨⟨.inr (.inl ⟨_, _, rfl, rfl⟩), ⟨.inl rfl, ⟨.inl rfl, ⟨.inr (.inr ⟨_, _, _, by decide, rfl, rfl⟩), trivial⟩⟩⟩⟩, trivial⟩) ?_
  refine mustP (by simp [limP] ; omega) ?_
  exact fin_step3 hK ⟨({ p.f with fly := p.f.fly ++ [⟨(0 : Int), (p.f.s1.l.length : Int), Int.tmod ((Int.tmod p.x (3 : Int)) + (3 : Int)) (3 : Int), (.slice none 0 0), []⟩] } : F3)⟩ (by dsimp only [po_step3] <;> (refine ⟨?_, by omega, by omega⟩ ; first | (exfalso ; omega) | exact ⟨tr_len (j := 0) hinv (by omega) rfl (by omega) rfl, Frz.refl _⟩ | exact ⟨tr_len (j := 1) hinv (by omega) rfl (by omega) rfl, Frz.refl _⟩ | exact ⟨tr_len (j := 2) hinv (by omega) rfl (by omega) rfl, Frz.refl _⟩))
  refine ifP (fun hc21 => ?_) (fun hc21 => ?_)
  refine mustP (rfl) ?_
  refine mustP (rfl) ?_
  refine mustP (rfl) ?_
  refine exB_mk [⟨(0 : Int), (p.f.s2.l.length : Int), Int.tmod ((Int.tmod p.x (3 : Int)) + (3 : Int)) (3 : Int), (.slice none 0 0), []⟩] ?_
  refine mustP (show rowsR ([⟨(0 : Int), (p.f.s2.l.length : Int), Int.tmod ((Int.tmod p.x (3 : Int)) + (3 : Int)) (3 : Int), (.slice none 0 0), []⟩].map encT) [[.int 0 (.ofNat 0), .sint 0 (p.f.s2.l.length : Int), .sint 0 (Int.tmod ((Int.tmod p.x (3 : Int)) + (3 : Int)) (3 : Int)), .nilS]] from ⟨⟨.inr (.inl ⟨_, _, rfl, rfl⟩), ⟨.inl rfl, ⟨.inl rfl, ⟨.inr (.inr ⟨_, _, _, by decide, rfl, rfl⟩), trivial⟩⟩⟩⟩, trivial⟩) ?_
  refine mustP (by simp [limP] ; omega) ?_
  exact fin_step3 hK ⟨({ p.f with fly := p.f.fly ++ [⟨(0 : Int), (p.f.s2.l.length : Int), Int.tmod ((Int.tmod p.x (3 : Int)) + (3 : Int)) (3 : Int), (.slice none 0 0), []⟩] } : F3)⟩ (by dsimp only [po_step3] <;> (refine ⟨?_, by omega, by omega⟩ ; first | (exfalso ; omega) | exact ⟨tr_len (j := 0) hinv (by omega) rfl (by omega) rfl, Frz.refl _⟩ | exact ⟨tr_len (j := 1) hinv (by omega) rfl (by omega) rfl, Frz.refl _⟩ | exact ⟨tr_len (j := 2) hinv (by omega) rfl (by omega) rfl, Frz.refl _⟩))
  refine mustP (by omega) ?_
  rfl
  refine callPR (⟨p.f, p.k, p.x, p.nn, p.i, Int.tmod ((Int.tmod p.x (3 : Int)) + (3 : Int)) (3 : Int), (p.f.fly.length : Int)⟩ : A_rest3) rfl (by (try dsimp only [pre_rest3]) ; exact ⟨hinv, by omega, by omega, by omega, by omega, by omega⟩) fun r6 hi22 => ?_
  dsimp only [po_rest3] at hi22
  exact fin_step3 hK ⟨r6.f⟩ (by dsimp only [po_step3] <;> (refine ⟨?_, by omega, by omega⟩ ; first | (exfalso ; omega) | exact hi22.1))
  refine callPR (⟨p.f, p.k, p.x, p.nn, p.i, Int.tmod ((Int.tmod p.x (3 : Int)) + (3 : Int)) (3 : Int), (p.f.fly.length : Int)⟩ : A_rest3) rfl (by (try dsimp only [pre_rest3]) ; exact ⟨hinv, by omega, by omega, by omega, by omega, by omega⟩) fun r7 hi23 => ?_
  dsimp only [po_rest3] at hi23
  exact fin_step3 hK ⟨r7.f⟩ (by dsimp only [po_step3] <;> (refine ⟨?_, by omega, by omega⟩ ; first | (exfalso ; omega) | exact hi23.1))
  refine callPR (⟨p.f, p.k, p.x, p.nn, p.i, Int.tmod ((Int.tmod p.x (3 : Int)) + (3 : Int)) (3 : Int), (p.f.fly.length : Int)⟩ : A_rest3) rfl (by (try dsimp only [pre_rest3]) ; exact ⟨hinv, by omega, by omega, by omega, by omega, by omega⟩) fun r8 hi24 => ?_
  dsimp only [po_rest3] at hi24
  exact fin_step3 hK ⟨r8.f⟩ (by dsimp only [po_step3] <;> (refine ⟨?_, by omega, by omega⟩ ; first | (exfalso ; omega) | exact hi24.1))
  refine ifP (fun hc25 => ?_) (fun hc25 => ?_)
  refine ifP (fun hc26 => ?_) (fun hc26 => ?_)
  refine ifP (fun hc27 => ?_) (fun hc27 => ?_)
  refine ifP (fun hc28 => ?_) (fun hc28 => ?_)
  refine mustP (rfl) ?_
  refine mustP (rfl) ?_
  refine mustP (rfl) ?_
  refine exB_mk [⟨(0 : Int), (p.f.s0.l.length : Int), Int.tmod ((Int.tmod p.x (3 : Int)) + (3 : Int)) (3 : Int), (.slice none 0 0), []⟩] ?_
  refine mustP (show rowsR ([⟨(0 : Int), (p.f.s0.l.length : Int), Int.tmod ((Int.tmod p.x (3 : Int)) + (3 : Int)) (3 : Int), (.slice none 0 0), []⟩].map encT) [[.int 0 (.ofNat 0), .sint 0 (p.f.s0.l.length : Int), .sint 0 (Int.tmod ((Int.tmod p.x (3 : Int)) + (3 : Int)) (3 : Int)), .nilS]] from ⟨⟨.inr (.inl ⟨_, _, rfl, rfl⟩), ⟨.inl rfl, ⟨.inl rfl, ⟨.inr (.inr ⟨_, _, _, by decide, rfl, rfl⟩), trivial⟩⟩⟩⟩, trivial⟩) ?_
  refine mustP (by simp [limP] ; omega) ?_
  exact fin_step3 hK ⟨({ p.f with fly := p.f.fly ++ [⟨(0 : Int), (p.f.s0.l.length : Int), Int.tmod ((Int.tmod p.x (3 : Int)) + (3 : Int)) (3 : Int), (.slice none 0 0), []⟩] } : F3)⟩ (by dsimp only [po_step3] <;> (refine ⟨?_, by omega, by omega⟩ ; first | (exfalso ; omega) | exact ⟨tr_len (j := 0) hinv (by omega) rfl (by omega) rfl, Frz.refl _⟩ | exact ⟨tr_len (j := 1) hinv (by omega) rfl (by omega) rfl, Frz.refl _⟩ | exact ⟨tr_len (j := 2) hinv (by omega) rfl (by omega) rfl, Frz.refl _⟩))
  refine ifP (fun hc29 => ?_) (fun hc29 => ?_)
  refine mustP (rfl) ?_
  refine mustP (rfl) ?_
  refine mustP (rfl) ?_
  refine exB_mk [⟨(0 : Int), (p.f.s1.l.length : Int), Int.tmod ((Int.tmod p.x (3 : Int)) + (3 : Int)) (3 : Int), (.slice none 0 0), []⟩] ?_
  refine mustP (show rowsR ([⟨(0 : Int), (p.f.s1.l.length : Int), Int.tmod ((Int.tmod p.x (3 : Int)) + (3 : Int)) (3 : Int), (.slice none 0 0), []⟩].map encT) [[.int 0 (.ofNat 0), .sint 0 (p.f.s1.l.length : Int), .sint 0 (Int.tmod ((Int.tmod p.x (3 : Int)) + (3 : Int)) (3 : Int)), .nilS]] from ⟨⟨.inr (.inl ⟨_, _, rfl, rfl⟩), ⟨.inl rfl, ⟨.inl rfl, ⟨.inr (.inr ⟨_, _, _, by decide, rfl, rfl⟩), trivial⟩⟩⟩⟩, trivial⟩) ?_
  refine mustP (by simp [limP] ; omega) ?_
  exact fin_step3 hK ⟨({ p.f with fly := p.f.fly ++ [⟨(0 : Int), (p.f.s1.l.length : Int), Int.tmod ((Int.tmod p.x (3 : Int)) + (3 : Int)) (3 : Int), (.slice none 0 0), []⟩] } : F3)⟩ (by dsimp only [po_step3] <;> (refine ⟨?_, by omega, by omega⟩ ; first | (exfalso ; omega) | exact ⟨tr_len (j := 0) hinv (by omega) rfl (by omega) rfl, Frz.refl _⟩ | exact ⟨tr_len (j := 1) hinv (by omega) rfl (by omega) rfl, Frz.refl _⟩ | exact ⟨tr_len (j := 2) hinv (by omega) rfl (by omega) rfl, Frz.refl _⟩))
  refine ifP (fun hc30 => ?_) (fun hc30 => ?_)
  refine mustP (rfl) ?_
  refine mustP (rfl) ?_
  refine mustP (rfl) ?_
  refine exB_mk [⟨(0 : Int), (p.f.s2.l.length : Int), Int.tmod ((Int.tmod p.x (3 : Int)) + (3 : Int)) (3 : Int), (.slice none 0 0), []⟩] ?_
  refine mustP (show rowsR ([⟨(0 : Int), (p.f.s2.l.length : Int), Int.tmod ((Int.tmod p.x (3 : Int)) + (3 : Int)) (3 : Int), (.slice none 0 0), []⟩].map encT) [[.int 0 (.ofNat 0), .sint 0 (p.f.s2.l.length : Int), .sint 0 (Int.tmod ((Int.tmod p.x (3 : Int)) + (3 : Int)) (3 : Int)), .nilS]] from ⟨⟨.inr (.inl ⟨_, _, rfl, rfl⟩), ⟨.inl rfl, ⟨.inl rfl, ⟨.inr (.inr ⟨_, _, _, by decide, rfl, rfl⟩), trivial⟩⟩⟩⟩, trivial⟩) ?_
  refine mustP (by simp [limP] ; omega) ?_
  exact fin_step3 hK ⟨({ p.f with fly := p.f.fly ++ [⟨(0 : Int), (p.f.s2.l.length : Int), Int.tmod ((Int.tmod p.x (3 : Int)) + (3 : Int)) (3 : Int), (.slice none 0 0), []⟩] } : F3)⟩ (by dsimp only [po_step3] <;> (refine ⟨?_, by omega, by omega⟩ ; first | (exfalso ; omega) | exact ⟨tr_len (j := 0) hinv (by omega) rfl (by omega) rfl, Frz.refl _⟩ | exact ⟨tr_len (j := 1) hinv (by omega) rfl (by omega) rfl, Frz.refl _⟩ | exact ⟨tr_len (j := 2) hinv (by omega) rfl (by omega) rfl, Frz.refl _⟩))
  refine mustP (by omega) ?_
  rfl
  refine callPR (⟨p.f, p.k, p.x, p.nn, p.i, Int.tmod ((Int.tmod p.x (3 : Int)) + (3 : Int)) (3 : Int), (p.f.fly.length : Int)⟩ : A_rest3) rfl (by (try dsimp only [pre_rest3]) ; exact ⟨hinv, by omega, by omega, by omega, by omega, by omega⟩) fun r9 hi31 => ?_
  dsimp only [po_rest3] at hi31
  exact fin_step3 hK ⟨r9.f⟩ (by dsimp only [po_step3] <;> (refine ⟨?_, by omega, by omega⟩ ; first | (exfalso ; omega) | exact hi31.1))
  refine callPR (⟨p.f, p.k, p.x, p.nn, p.i, Int.tmod ((Int.tmod p.x (3 : Int)) + (3 : Int)) (3 : Int), (p.f.fly.length : Int)⟩ : A_rest3) rfl (by (try dsimp only [pre_rest3]) ; exact ⟨hinv, by omega, by omega, by omega, by omega, by omega⟩) fun r10 hi32 => ?_
  dsimp only [po_rest3] at hi32
  exact fin_step3 hK ⟨r10.f⟩ (by dsimp only [po_step3] <;> (refine ⟨?_, by omega, by omega⟩ ; first | (exfalso ; omega) | exact hi32.1))
  refine callPR (⟨p.f, p.k, p.x, p.nn, p.i, Int.tmod ((Int.tmod p.x (3 : Int)) + (3 : Int)) (3 : Int), (p.f.fly.length : Int)⟩ : A_rest3) rfl (by (try dsimp only [pre_rest3]) ; exact ⟨hinv, by omega, by omega, by omega, by omega, by omega⟩) fun r11 hi33 => ?_
  dsimp only [po_rest3] at hi33
  exact fin_step3 hK ⟨r11.f⟩ (by dsimp only [po_step3] <;> (refine ⟨?_, by omega, by omega⟩ ; first | (exfalso ; omega) | exact hi33.1))
noncomputable def ec_step3 : SpecE := tstE (elB 1 3) (esOf I_step3 (spP pre_step3 out_step3)) ec_step2
theorem nc_step3 : NatE Try.prog 28 1 ec_step3 := tstE_ok (natE_said (f := 28) (k := 1) (lp := lp_step3) (lf := 600) tb_mix (cfT_ok nat_come3_ok) ft_step3_ok (by rfl) (fun b j x h => (mem_step lo_rest3 (fun h => (by cases h)) h)) fun p K h => vf_step3 p K (mustP_ok h).1 (mustP_ok h).2) nc_step2
noncomputable def nat_step3 := natC nat_come3 1 ec_step3 28 [(0, 4), (1, 15)]
theorem nat_step3_ok : NatsOk Try.prog nat_step3 := natC_ok nc_step3 nat_come3_ok
end Go.Proofs.Try

namespace Go.Proofs.Try
open Go Go.RowKit Go.Sy
open Go.Eng hiding allB
set_option maxRecDepth 1000000
set_option linter.unusedVariables false
set_option maxHeartbeats 4000000
def ft_come4 : XF := ft_come1
theorem ft_come4_ok : chkF Try.prog 41 ft_come4 = true := ft_come1_ok
structure A_come4 where
  f : F4
  t : Told
structure R_come4 where
  f : F4
def po_come4 (p : A_come4) (r : R_come4) : Prop := (FI4 r.f ∧ Fr4 p.f r.f) ∧ r.f.cnt = p.f.cnt
noncomputable def I_come4 (p : A_come4) : IE := ([.ptr 0 0, .agg [.sy (.int 0 p.t.to), .sy (.int 0 p.t.fr), .sy (.int 0 p.t.c), .sy (.imm p.t.h 18 Int p.t.l encK)]], (Fd4n p.f), 19)
noncomputable def out_come4 (p : A_come4) (K : KE) : Bool := allB fun r : R_come4 => ifB (prB (po_come4 p r)) (K (.tup []) (Fd4n r.f) 19) true
def pre_come4 (p : A_come4) : Prop := FI4 p.f ∧ MsgOk p.f.s0 [p.f.s1, p.f.s2, p.f.s3] p.t
theorem fin_come4 {p : A_come4} {K : KE} (hK : out_come4 p K = true) (r : R_come4) (h : po_come4 p r) : K (.tup []) (Fd4n r.f) 19 = true := ifB_use h (allB_ok hK r)
theorem vf_come4 (p : A_come4) (K : KE) (hpre : pre_come4 p) (hK : out_come4 p K = true) : (funE 1 (cfT nat_step3) noLp 600 ft_come4 (I_come4 p).1 (I_come4 p).2.1 (I_come4 p).2.2 K) = true := by
  refine Eq.trans (b := (ifB (prB (p.t.to = (0 : Int))) (must (prB (InR 1 p.t.c)) (must (prB (((.int 0 p.t.fr) : SY) = (.int 0 p.t.fr))) (exB fun p1 : A_ack4 => must (prB (([.ptr 0 0, .agg [.sy (.int 1 p.t.c), .int 2 (.ofNat 1)], .sy (.int 0 p.t.fr)], (Ro4n p.f.s0.l p.f.s0.com p.f.s0.sh p.f.c0 p.f.c1 p.f.c2 p.f.c3), 4) = I_ack4 p1)) (must (prB (pre_ack4 p1)) (allB fun r1 : R_ack4 => ifB (prB (po_ack4 p1 r1)) (K (.tup []) (Fd4n ({ p.f with s0 := ⟨p1.l, r1.com, p1.sh⟩, c0 := r1.c0, c1 := r1.c1, c2 := r1.c2, c3 := r1.c3 } : F4)) 19) true))))) (ifB (prB (p.t.to = 0)) (exB fun p5 : A_take4 => must (prB (([.ptr 0 0, .sy (.int 0 p.t.fr), .sy (.imm p.t.h 18 Int p.t.l encK), .sy (.int 0 p.t.c)], (Ro4n p.f.s0.l p.f.s0.com p.f.s0.sh p.f.c0 p.f.c1 p.f.c2 p.f.c3), 4) = I_take4 p5)) (must (prB (pre_take4 p5)) (allB fun r5 : R_take4 => ifB (prB (po_take4 p5 r5)) (K (.tup []) (.node (.node (.node (.node (.node .leaf (some (.map [(.agg [.int 1 (.ofNat 0), .int 2 (.ofNat 1)], .sy (.int 0 0), 0), (.agg [.int 1 (.ofNat 1), .int 2 (.ofNat 1)], .sy (.int 0 0), 1), (.agg [.int 1 (.ofNat 2), .int 2 (.ofNat 1)], .sy (.int 0 0), 2), (.agg [.int 1 (.ofNat 3), .int 2 (.ofNat 1)], .sy (.int 0 0), 3)] 4)) .leaf) (some (.blk true 31 2 [[.int 1 (.ofNat 0), .int 2 (.ofNat 1)], [.int 1 (.ofNat 1), .int 2 (.ofNat 1)], [.int 1 (.ofNat 2), .int 2 (.ofNat 1)], [.int 1 (.ofNat 3), .int 2 (.ofNat 1)]])) .leaf) (some (.blk false 67 10 [[.int 1 (.ofNat 0), .int 3 (.ofNat 1), .sl 7 0 4 (.rest 0), .sy (.int 1 p5.me), .int 2 (.ofNat 1), .sy (.prow 8 r5.l.length), .int 0 (.ofNat 0), .sy (.int 0 r5.com), .sy (.bool p5.sh), .map 9]])) (.node .leaf (some (.prow 45 18 Int p.f.s1.l encK)) .leaf)) (some (.blk true 22 1 [[.ptr 3 0], [.ptr 4 0], [.ptr 5 0], [.ptr 6 0]])) (.node (.node (.node .leaf (some (.prow 45 18 Int p.f.s3.l encK)) .leaf) (some (.map [(.agg [.int 1 (.ofNat 0), .int 2 (.ofNat 1)], .sy (.int 0 p5.c0), 0), (.agg [.int 1 (.ofNat 1), .int 2 (.ofNat 1)], .sy (.int 0 p5.c1), 1), (.agg [.int 1 (.ofNat 2), .int 2 (.ofNat 1)], .sy (.int 0 p5.c2), 2), (.agg [.int 1 (.ofNat 3), .int 2 (.ofNat 1)], .sy (.int 0 p5.c3), 3)] 4)) .leaf) (some (.blk false 67 10 [[.int 1 (.ofNat 0), .int 3 (.ofNat 1), .sl 13 0 4 (.rest 0), .sy (.int 1 2), .int 2 (.ofNat 1), .sy (.prow 14 p.f.s2.l.length), .int 0 (.ofNat 0), .sy (.int 0 p.f.s2.com), .sy (.bool p.f.s2.sh), .map 15]])) (.node .leaf (some (.blk true 31 2 [[.int 1 (.ofNat 0), .int 2 (.ofNat 1)], [.int 1 (.ofNat 1), .int 2 (.ofNat 1)], [.int 1 (.ofNat 2), .int 2 (.ofNat 1)], [.int 1 (.ofNat 3), .int 2 (.ofNat 1)]])) .leaf))) (some (.blk false 81 3 [[.sl 1 0 4 (.rest 0), .sy (.prow 2 p.f.fly.length), .sy (.int 0 p.f.cnt)]])) (.node (.node (.node (.node .leaf (some (.blk true 31 2 [[.int 1 (.ofNat 0), .int 2 (.ofNat 1)], [.int 1 (.ofNat 1), .int 2 (.ofNat 1)], [.int 1 (.ofNat 2), .int 2 (.ofNat 1)], [.int 1 (.ofNat 3), .int 2 (.ofNat 1)]])) .leaf) (some (.prow 45 18 Int r5.l encK)) .leaf) (some (.blk false 67 10 [[.int 1 (.ofNat 0), .int 3 (.ofNat 1), .sl 10 0 4 (.rest 0), .sy (.int 1 1), .int 2 (.ofNat 1), .sy (.prow 11 p.f.s1.l.length), .int 0 (.ofNat 0), .sy (.int 0 p.f.s1.com), .sy (.bool p.f.s1.sh), .map 12]])) (.node .leaf (some (.map [(.agg [.int 1 (.ofNat 0), .int 2 (.ofNat 1)], .sy (.int 0 0), 0), (.agg [.int 1 (.ofNat 1), .int 2 (.ofNat 1)], .sy (.int 0 0), 1), (.agg [.int 1 (.ofNat 2), .int 2 (.ofNat 1)], .sy (.int 0 0), 2), (.agg [.int 1 (.ofNat 3), .int 2 (.ofNat 1)], .sy (.int 0 0), 3)] 4)) .leaf)) (some (.prow 100 4 Told p.f.fly encT)) (.node (.node (.node .leaf (some (.map [(.agg [.int 1 (.ofNat 0), .int 2 (.ofNat 1)], .sy (.int 0 0), 0), (.agg [.int 1 (.ofNat 1), .int 2 (.ofNat 1)], .sy (.int 0 0), 1), (.agg [.int 1 (.ofNat 2), .int 2 (.ofNat 1)], .sy (.int 0 0), 2), (.agg [.int 1 (.ofNat 3), .int 2 (.ofNat 1)], .sy (.int 0 0), 3)] 4)) .leaf) (some (.blk true 31 2 [[.int 1 (.ofNat 0), .int 2 (.ofNat 1)], [.int 1 (.ofNat 1), .int 2 (.ofNat 1)], [.int 1 (.ofNat 2), .int 2 (.ofNat 1)], [.int 1 (.ofNat 3), .int 2 (.ofNat 1)]])) .leaf) (some (.blk false 67 10 [[.int 1 (.ofNat 0), .int 3 (.ofNat 1), .sl 16 0 4 (.rest 0), .sy (.int 1 3), .int 2 (.ofNat 1), .sy (.prow 17 p.f.s3.l.length), .int 0 (.ofNat 0), .sy (.int 0 p.f.s3.com), .sy (.bool p.f.s3.sh), .map 18]])) (.node .leaf (some (.prow 45 18 Int p.f.s2.l encK)) .leaf)))) 19) true))) (ifB (prB (p.t.to = 1)) (exB fun p4 : A_take4 => must (prB (([.ptr 0 0, .sy (.int 0 p.t.fr), .sy (.imm p.t.h 18 Int p.t.l encK), .sy (.int 0 p.t.c)], (Rm4n p.f.s1.l p.f.s1.com p.f.s1.sh 0 0 0 0 1), 4) = I_take4 p4)) (must (prB (pre_take4 p4)) (allB fun r4 : R_take4 => ifB (prB (po_take4 p4 r4)) (K (.tup []) (Fg4 ({ p.f with s1 := ⟨r4.l, r4.com, p4.sh⟩ } : F4) p4.me p4.c0 p4.c1 p4.c2 p4.c3 2 0 0 0 0 3 0 0 0 0 p.f.fly.length p.f.s0.l.length r4.l.length p.f.s2.l.length p.f.s3.l.length) 19) true))) (ifB (prB (p.t.to = 2)) (exB fun p3 : A_take4 => must (prB (([.ptr 0 0, .sy (.int 0 p.t.fr), .sy (.imm p.t.h 18 Int p.t.l encK), .sy (.int 0 p.t.c)], (Rm4n p.f.s2.l p.f.s2.com p.f.s2.sh 0 0 0 0 2), 4) = I_take4 p3)) (must (prB (pre_take4 p3)) (allB fun r3 : R_take4 => ifB (prB (po_take4 p3 r3)) (K (.tup []) (Fg4 ({ p.f with s2 := ⟨r3.l, r3.com, p3.sh⟩ } : F4) 1 0 0 0 0 p3.me p3.c0 p3.c1 p3.c2 p3.c3 3 0 0 0 0 p.f.fly.length p.f.s0.l.length p.f.s1.l.length r3.l.length p.f.s3.l.length) 19) true))) (ifB (prB (p.t.to = 3)) (exB fun p2 : A_take4 => must (prB (([.ptr 0 0, .sy (.int 0 p.t.fr), .sy (.imm p.t.h 18 Int p.t.l encK), .sy (.int 0 p.t.c)], (Rm4n p.f.s3.l p.f.s3.com p.f.s3.sh 0 0 0 0 3), 4) = I_take4 p2)) (must (prB (pre_take4 p2)) (allB fun r2 : R_take4 => ifB (prB (po_take4 p2 r2)) (K (.tup []) (Fg4 ({ p.f with s3 := ⟨r2.l, r2.com, p2.sh⟩ } : F4) 1 0 0 0 0 2 0 0 0 0 p2.me p2.c0 p2.c1 p2.c2 p2.c3 p.f.fly.length p.f.s0.l.length p.f.s1.l.length p.f.s2.l.length r2.l.length) 19) true))) (must (prB (False)) (true)))))))) (by kernel_rfl) ?_
  dsimp only [pre_come4] at hpre
  obtain ⟨hinv, hm⟩ := hpre
  have hinv : FInv p.f.s0 _ _ p.f.fly := hinv
  have hs : p.f.s0.l.length ≤ 400 := hinv.short
  have hfew : p.f.fly.length ≤ 100 := hinv.few
  have f0 : p.f.c0 ≤ (p.f.s0.l.length : Int) ∧ 0 ≤ p.f.c0 ∧ p.f.s0.l.length ≤ p.f.s0.l.length := ⟨(hinv.each 0 _ _ rfl rfl).cl, (hinv.each 0 _ _ rfl rfl).c0, (hinv.each 0 _ _ rfl rfl).len⟩
  have f1 : p.f.c1 ≤ (p.f.s1.l.length : Int) ∧ 0 ≤ p.f.c1 ∧ p.f.s1.l.length ≤ p.f.s0.l.length := ⟨(hinv.each 1 _ _ rfl rfl).cl, (hinv.each 1 _ _ rfl rfl).c0, (hinv.each 1 _ _ rfl rfl).len⟩
  have f2 : p.f.c2 ≤ (p.f.s2.l.length : Int) ∧ 0 ≤ p.f.c2 ∧ p.f.s2.l.length ≤ p.f.s0.l.length := ⟨(hinv.each 2 _ _ rfl rfl).cl, (hinv.each 2 _ _ rfl rfl).c0, (hinv.each 2 _ _ rfl rfl).len⟩
  have f3 : p.f.c3 ≤ (p.f.s3.l.length : Int) ∧ 0 ≤ p.f.c3 ∧ p.f.s3.l.length ≤ p.f.s0.l.length := ⟨(hinv.each 3 _ _ rfl rfl).cl, (hinv.each 3 _ _ rfl rfl).c0, (hinv.each 3 _ _ rfl rfl).len⟩
  have hm2 := hm.flat hs
  simp only [List.length_cons, List.length_nil, List.length_singleton] at hm2
  refine ifP (fun hc1 => ?_) (fun hc1 => ?_)
  refine mustP (by simp only [InR] ; omega) ?_
  refine mustP (rfl) ?_
  refine callPR (⟨p.f.s0.l, p.f.s0.com, p.f.s0.sh, p.f.c0, p.f.c1, p.f.c2, p.f.c3, p.t.c, p.t.fr⟩ : A_ack4) rfl (by (try dsimp only [pre_ack4]) ; omega) fun r1 hi2 => ?_
  dsimp only [po_ack4] at hi2
  exact fin_come4 hK ⟨({ p.f with s0 := ⟨p.f.s0.l, r1.com, p.f.s0.sh⟩, c0 := r1.c0, c1 := r1.c1, c2 := r1.c2, c3 := r1.c3 } : F4)⟩ (by dsimp only [po_come4] <;> (first | (exfalso ; omega) | exact ⟨tr_ack (maj := 3) (m := 4) hinv (by simp) (by simp) hm (by assumption) (by assumption), rfl⟩))
  refine ifP (fun hc3 => ?_) (fun hc3 => ?_)
  exfalso ; omega
  refine ifP (fun hc4 => ?_) (fun hc4 => ?_)
  refine callPR (⟨p.f.s1.l, p.f.s1.com, p.f.s1.sh, (0 : Int), (0 : Int), (0 : Int), (0 : Int), (1 : Int), p.t.fr, p.t.h, p.t.l, p.t.c⟩ : A_take4) rfl (by (try dsimp only [pre_take4]) ; omega) fun r4 hi5 => ?_
  dsimp only [po_take4] at hi5
  exact fin_come4 hK ⟨({ p.f with s1 := ⟨r4.l, r4.com, p.f.s1.sh⟩ } : F4)⟩ (by dsimp only [po_come4] <;> (first | (exfalso ; omega) | exact ⟨tr_take (i := 0) hinv rfl hm (by assumption) (by assumption), rfl⟩))
  refine ifP (fun hc6 => ?_) (fun hc6 => ?_)
  refine callPR (⟨p.f.s2.l, p.f.s2.com, p.f.s2.sh, (0 : Int), (0 : Int), (0 : Int), (0 : Int), (2 : Int), p.t.fr, p.t.h, p.t.l, p.t.c⟩ : A_take4) rfl (by (try dsimp only [pre_take4]) ; omega) fun r3 hi7 => ?_
  dsimp only [po_take4] at hi7
  exact fin_come4 hK ⟨({ p.f with s2 := ⟨r3.l, r3.com, p.f.s2.sh⟩ } : F4)⟩ (by dsimp only [po_come4] <;> (first | (exfalso ; omega) | exact ⟨tr_take (i := 1) hinv rfl hm (by assumption) (by assumption), rfl⟩))
  refine ifP (fun hc8 => ?_) (fun hc8 => ?_)
  refine callPR (⟨p.f.s3.l, p.f.s3.com, p.f.s3.sh, (0 : Int), (0 : Int), (0 : Int), (0 : Int), (3 : Int), p.t.fr, p.t.h, p.t.l, p.t.c⟩ : A_take4) rfl (by (try dsimp only [pre_take4]) ; omega) fun r2 hi9 => ?_
  dsimp only [po_take4] at hi9
  exact fin_come4 hK ⟨({ p.f with s3 := ⟨r2.l, r2.com, p.f.s3.sh⟩ } : F4)⟩ (by dsimp only [po_come4] <;> (first | (exfalso ; omega) | exact ⟨tr_take (i := 2) hinv rfl hm (by assumption) (by assumption), rfl⟩))
  refine mustP (by omega) ?_
  rfl
noncomputable def ec_come4 : SpecE := tstE (elB 1 4) (esOf I_come4 (spP pre_come4 out_come4)) ec_come3
theorem nc_come4 : NatE Try.prog 41 1 ec_come4 := tstE_ok (natE_pl (f := 41) (k := 1) (cfT_ok nat_step3_ok) ft_come4_ok (by rfl) (by rfl) vf_come4) nc_come3
noncomputable def nat_come4 := natC nat_step3 1 ec_come4 41 [(0, 4), (1, 15)]
theorem nat_come4_ok : NatsOk Try.prog nat_come4 := natC_ok nc_come4 nat_step3_ok
def ft_step4 : XF := ft_step1
theorem ft_step4_ok : chkF Try.prog 28 ft_step4 = true := ft_step1_ok
structure A_rest4 where
  f : F4
  k : Int
  x : Int
  nn : Int
  i : Int
  y : Int
  kk : Int
structure R_rest4 where
  f : F4
def po_rest4 (p : A_rest4) (r : R_rest4) : Prop := (FI4 r.f ∧ Fr4 p.f r.f) ∧ r.f.cnt = p.f.cnt
noncomputable def I_rest4 (p : A_rest4) : IL := ((.cons 5 (.sy (.int 0 p.kk)) (.cons 4 (.sy (.int 0 p.y)) (.cons 3 (.ptr 1 0) (.cons 0 (.ptr 0 0) .nil)))), (Fb4n p.f p.k p.x p.nn p.i), 20)
noncomputable def out_rest4 (p : A_rest4) (K : KC) : Bool := allB fun r : R_rest4 => ifB (prB (po_rest4 p r)) (K 0 .nil (Fd4n r.f) 19) true
def pre_rest4 (p : A_rest4) : Prop := FI4 p.f ∧ 0 ≤ p.f.cnt ∧ p.f.cnt ≤ 1000000 ∧ 0 ≤ p.y ∧ p.y < 4 ∧ p.kk = (p.f.fly.length : Int)
theorem fin_rest4 {p : A_rest4} {K : KC} (hK : out_rest4 p K = true) (r : R_rest4) (h : po_rest4 p r) : K 0 .nil (Fd4n r.f) 19 = true := ifB_use h (allB_ok hK r)
noncomputable def sp_rest4 (p : A_rest4) (K : KC) : Bool := must (prB (pre_rest4 p)) (out_rest4 p K)
noncomputable def lp_step4 : LpF := fun j S M nx K => (Bool.rec (false) (exB fun p : A_rest4 => must (prB ((S, M, nx) = I_rest4 p)) (sp_rest4 p K)) (Nat.beq j 0))
def bd_rest4 : XC := bd_rest1
theorem vb_rest4 (p : A_rest4) (K : KC) (hpre : pre_rest4 p) (hK : out_rest4 p K = true) : (codeX (cfT nat_come4) lp_step4 600 bd_rest4 (I_rest4 p).1 (I_rest4 p).2.1 (I_rest4 p).2.2 K) = true := by
  refine Eq.trans (b := (let y0 : Int := (Int.tmod ((Int.tmod p.i p.kk) + p.kk) p.kk); ifB (prB (p.k = (7 : Int))) (ifB (prB (p.y = 0)) (K 0 .nil (Fd4n ({ p.f with s0 := ({ p.f.s0 with sh := true = true } : Rl) } : F4)) 19) (ifB (prB (p.y = 1)) (K 0 .nil (Fd4n ({ p.f with s1 := ({ p.f.s1 with sh := true = true } : Rl) } : F4)) 19) (ifB (prB (p.y = 2)) (K 0 .nil (Fd4n ({ p.f with s2 := ({ p.f.s2 with sh := true = true } : Rl) } : F4)) 19) (ifB (prB (p.y = 3)) (K 0 .nil (Fd4n ({ p.f with s3 := ({ p.f.s3 with sh := true = true } : Rl) } : F4)) 19) (must (prB (False)) (true)))))) (ifB (prB ((3 : Int) ≤ p.k)) (ifB (prB ((0 : Int) < p.kk)) (must (prB (p.kk ≠ 0)) (must (prB (InR 0 ((Int.tmod p.i p.kk) + p.kk))) (must (prB (p.kk ≠ 0)) (must (prB (0 ≤ y0 ∧ y0 < (p.f.fly.length : Int))) (must (prB ((y0.toNat) < p.f.fly.length)) (allB fun x1 : Told => ifB (prB (p.f.fly[y0.toNat]? = some x1)) (ifB (prB (¬ p.k = (5 : Int))) (must (prB (p.f.fly.length = p.f.fly.length ∧ 0 ≤ (0 : Int) ∧ (0 : Int) ≤ y0 ∧ y0 ≤ (p.f.fly.length : Int))) (must (prB (InR 0 (y0 + (1 : Int)))) (must (prB (p.f.fly.length = p.f.fly.length ∧ 0 ≤ (y0 + (1 : Int)) ∧ (y0 + (1 : Int)) ≤ (p.f.fly.length : Int) ∧ (p.f.fly.length : Int) ≤ (p.f.fly.length : Int))) (must (prB (((.prow 3 p.f.fly.length) : SY) = (.prow 3 p.f.fly.length))) (must (prB (p.f.fly.length = p.f.fly.length ∧ 0 ≤ (0 : Int) ∧ (0 : Int) ≤ y0 ∧ y0 ≤ (p.f.fly.length : Int))) (must (prB (((.psub 3 4 0 ((y0.toNat) - 0)) : SY) = (.psub 3 4 0 ((y0.toNat) - 0)))) (must (prB (((.prow 3 p.f.fly.length) : SY) = (.prow 3 p.f.fly.length))) (must (prB (p.f.fly.length = p.f.fly.length ∧ 0 ≤ (y0 + (1 : Int)) ∧ (y0 + (1 : Int)) ≤ (p.f.fly.length : Int) ∧ (p.f.fly.length : Int) ≤ (p.f.fly.length : Int))) (must (prB (((.psub 3 4 ((y0 + (1 : Int)).toNat) (p.f.fly.length - ((y0 + (1 : Int)).toNat))) : SY) = (.psub 3 4 ((y0 + (1 : Int)).toNat) (p.f.fly.length - ((y0 + (1 : Int)).toNat))))) (must (prB (0 + ((y0.toNat) - 0) ≤ p.f.fly.length)) (ifB (prB (((p.f.fly.drop 0).take ((y0.toNat) - 0)) = [])) (must (prB (((.prow 3 p.f.fly.length) : SY) = (.prow 3 p.f.fly.length))) (must (prB (p.f.fly.length = p.f.fly.length ∧ 0 ≤ (y0 + (1 : Int)) ∧ (y0 + (1 : Int)) ≤ (p.f.fly.length : Int) ∧ (p.f.fly.length : Int) ≤ (p.f.fly.length : Int))) (must (prB (((.psub 3 4 ((y0 + (1 : Int)).toNat) (p.f.fly.length - ((y0 + (1 : Int)).toNat))) : SY) = (.psub 3 4 ((y0 + (1 : Int)).toNat) (p.f.fly.length - ((y0 + (1 : Int)).toNat))))) (must (prB (((y0 + (1 : Int)).toNat) + (p.f.fly.length - ((y0 + (1 : Int)).toNat)) ≤ p.f.fly.length)) (ifB (prB (((p.f.fly.drop ((y0 + (1 : Int)).toNat)).take (p.f.fly.length - ((y0 + (1 : Int)).toNat))) = [])) (must (prB ((.sl 21 0 0 (.ex 0) : AV) = (.sl 21 0 0 (.ex 0) : AV))) (ifB (prB (¬ p.k = (6 : Int))) (exB fun p1 : A_come4 => must (prB (([.ptr 0 0, .agg [.sy (.int 0 x1.to), .sy (.int 0 x1.fr), .sy (.int 0 x1.c), .sy (.imm x1.h 18 Int x1.l encK)]], (Fd4 ({ p.f with fly := ([] : List Told) } : F4) 0 p.f.s0.l.length p.f.s1.l.length p.f.s2.l.length p.f.s3.l.length), 19) = I_come4 p1)) (must (prB (pre_come4 p1)) (allB fun r1 : R_come4 => ifB (prB (po_come4 p1 r1)) (K 0 .nil (Fd4n r1.f) 19) true))) (K 0 .nil (Fd4 ({ p.f with fly := ([] : List Told) } : F4) 0 p.f.s0.l.length p.f.s1.l.length p.f.s2.l.length p.f.s3.l.length) 19))) (must (prB (limP 48 ((p.f.fly.drop ((y0 + (1 : Int)).toNat)).take (p.f.fly.length - ((y0 + (1 : Int)).toNat))).length)) (ifB (prB (¬ p.k = (6 : Int))) (exB fun p2 : A_come4 => must (prB (([.ptr 0 0, .agg [.sy (.int 0 x1.to), .sy (.int 0 x1.fr), .sy (.int 0 x1.c), .sy (.imm x1.h 18 Int x1.l encK)]], (Fd4 ({ p.f with fly := (p.f.fly.drop ((y0 + (1 : Int)).toNat)).take (p.f.fly.length - ((y0 + (1 : Int)).toNat)) } : F4) (((p.f.fly.drop ((y0 + (1 : Int)).toNat)).take (p.f.fly.length - ((y0 + (1 : Int)).toNat))).length) p.f.s0.l.length p.f.s1.l.length p.f.s2.l.length p.f.s3.l.length), 19) = I_come4 p2)) (must (prB (pre_come4 p2)) (allB fun r2 : R_come4 => ifB (prB (po_come4 p2 r2)) (K 0 .nil (Fd4n r2.f) 19) true))) (K 0 .nil (Fd4 ({ p.f with fly := (p.f.fly.drop ((y0 + (1 : Int)).toNat)).take (p.f.fly.length - ((y0 + (1 : Int)).toNat)) } : F4) (((p.f.fly.drop ((y0 + (1 : Int)).toNat)).take (p.f.fly.length - ((y0 + (1 : Int)).toNat))).length) p.f.s0.l.length p.f.s1.l.length p.f.s2.l.length p.f.s3.l.length) 19)))))))) (must (prB (limP 48 ((p.f.fly.drop 0).take ((y0.toNat) - 0)).length)) (must (prB (((.prow 3 p.f.fly.length) : SY) = (.prow 3 p.f.fly.length))) (must (prB (p.f.fly.length = p.f.fly.length ∧ 0 ≤ (y0 + (1 : Int)) ∧ (y0 + (1 : Int)) ≤ (p.f.fly.length : Int) ∧ (p.f.fly.length : Int) ≤ (p.f.fly.length : Int))) (must (prB (((.psub 3 4 ((y0 + (1 : Int)).toNat) (p.f.fly.length - ((y0 + (1 : Int)).toNat))) : SY) = (.psub 3 4 ((y0 + (1 : Int)).toNat) (p.f.fly.length - ((y0 + (1 : Int)).toNat))))) (must (prB (((y0 + (1 : Int)).toNat) + (p.f.fly.length - ((y0 + (1 : Int)).toNat)) ≤ p.f.fly.length)) (must (prB ((((p.f.fly.drop 0).take ((y0.toNat) - 0)).length) = ((p.f.fly.drop 0).take ((y0.toNat) - 0)).length)) (ifB (prB (((p.f.fly.drop ((y0 + (1 : Int)).toNat)).take (p.f.fly.length - ((y0 + (1 : Int)).toNat))) = [])) (ifB (prB (¬ p.k = (6 : Int))) (exB fun p4 : A_come4 => must (prB (([.ptr 0 0, .agg [.sy (.int 0 x1.to), .sy (.int 0 x1.fr), .sy (.int 0 x1.c), .sy (.imm x1.h 18 Int x1.l encK)]], (Fd4 ({ p.f with fly := (p.f.fly.drop 0).take ((y0.toNat) - 0) } : F4) (((p.f.fly.drop 0).take ((y0.toNat) - 0)).length) p.f.s0.l.length p.f.s1.l.length p.f.s2.l.length p.f.s3.l.length), 19) = I_come4 p4)) (must (prB (pre_come4 p4)) (allB fun r4 : R_come4 => ifB (prB (po_come4 p4 r4)) (K 0 .nil (Fd4n r4.f) 19) true))) (K 0 .nil (Fd4 ({ p.f with fly := (p.f.fly.drop 0).take ((y0.toNat) - 0) } : F4) (((p.f.fly.drop 0).take ((y0.toNat) - 0)).length) p.f.s0.l.length p.f.s1.l.length p.f.s2.l.length p.f.s3.l.length) 19)) (exB fun m1 : List Told => must (prB (rowsR (m1.map encT) (((p.f.fly.drop ((y0 + (1 : Int)).toNat)).take (p.f.fly.length - ((y0 + (1 : Int)).toNat))).map encT))) (must (prB (limP 48 (((p.f.fly.drop 0).take ((y0.toNat) - 0)).length + m1.length))) (ifB (prB (¬ p.k = (6 : Int))) (exB fun p3 : A_come4 => must (prB (([.ptr 0 0, .agg [.sy (.int 0 x1.to), .sy (.int 0 x1.fr), .sy (.int 0 x1.c), .sy (.imm x1.h 18 Int x1.l encK)]], (Fd4 ({ p.f with fly := ((p.f.fly.drop 0).take ((y0.toNat) - 0)) ++ m1 } : F4) ((((p.f.fly.drop 0).take ((y0.toNat) - 0)) ++ m1).length) p.f.s0.l.length p.f.s1.l.length p.f.s2.l.length p.f.s3.l.length), 19) = I_come4 p3)) (must (prB (pre_come4 p3)) (allB fun r3 : R_come4 => ifB (prB (po_come4 p3 r3)) (K 0 .nil (Fd4n r3.f) 19) true))) (K 0 .nil (Fd4 ({ p.f with fly := ((p.f.fly.drop 0).take ((y0.toNat) - 0)) ++ m1 } : F4) ((((p.f.fly.drop 0).take ((y0.toNat) - 0)) ++ m1).length) p.f.s0.l.length p.f.s1.l.length p.f.s2.l.length p.f.s3.l.length) 19)))))))))))))))))))))) (ifB (prB (¬ p.k = (6 : Int))) (exB fun p5 : A_come4 => must (prB (([.ptr 0 0, .agg [.sy (.int 0 x1.to), .sy (.int 0 x1.fr), .sy (.int 0 x1.c), .sy (.imm x1.h 18 Int x1.l encK)]], (Fd4n p.f), 19) = I_come4 p5)) (must (prB (pre_come4 p5)) (allB fun r5 : R_come4 => ifB (prB (po_come4 p5 r5)) (K 0 .nil (Fd4n r5.f) 19) true))) (K 0 .nil (Fd4n p.f) 19))) true)))))) (K 0 .nil (Fd4n p.f) 19)) (K 0 .nil (Fd4n p.f) 19)))) (by kernel_rfl) ?_
  dsimp only [pre_rest4] at hpre
  obtain ⟨hinv, k1, k2, k3, k4, k5⟩ := hpre
  have hinv : FInv p.f.s0 _ _ p.f.fly := hinv
  have hs : p.f.s0.l.length ≤ 400 := hinv.short
  have hfew : p.f.fly.length ≤ 100 := hinv.few
  have f0 : p.f.c0 ≤ (p.f.s0.l.length : Int) ∧ 0 ≤ p.f.c0 ∧ p.f.s0.l.length ≤ p.f.s0.l.length := ⟨(hinv.each 0 _ _ rfl rfl).cl, (hinv.each 0 _ _ rfl rfl).c0, (hinv.each 0 _ _ rfl rfl).len⟩
  have f1 : p.f.c1 ≤ (p.f.s1.l.length : Int) ∧ 0 ≤ p.f.c1 ∧ p.f.s1.l.length ≤ p.f.s0.l.length := ⟨(hinv.each 1 _ _ rfl rfl).cl, (hinv.each 1 _ _ rfl rfl).c0, (hinv.each 1 _ _ rfl rfl).len⟩
  have f2 : p.f.c2 ≤ (p.f.s2.l.length : Int) ∧ 0 ≤ p.f.c2 ∧ p.f.s2.l.length ≤ p.f.s0.l.length := ⟨(hinv.each 2 _ _ rfl rfl).cl, (hinv.each 2 _ _ rfl rfl).c0, (hinv.each 2 _ _ rfl rfl).len⟩
  have f3 : p.f.c3 ≤ (p.f.s3.l.length : Int) ∧ 0 ≤ p.f.c3 ∧ p.f.s3.l.length ≤ p.f.s0.l.length := ⟨(hinv.each 3 _ _ rfl rfl).cl, (hinv.each 3 _ _ rfl rfl).c0, (hinv.each 3 _ _ rfl rfl).len⟩
  have t6 := tmk p.kk p.i
  have t7 := tmk2 p.kk p.i
  refine ifP (fun hc1 => ?_) (fun hc1 => ?_)
  refine ifP (fun hc2 => ?_) (fun hc2 => ?_)
  exact fin_rest4 hK ⟨({ p.f with s0 := ({ p.f.s0 with sh := true = true } : Rl) } : F4)⟩ (by dsimp only [po_rest4] <;> (first | (exfalso ; omega) | exact ⟨by exact ⟨tr_shut hinv _, frz_shut rfl⟩, by first | rfl | exact hi0.2⟩))
  refine ifP (fun hc3 => ?_) (fun hc3 => ?_)
  exact fin_rest4 hK ⟨({ p.f with s1 := ({ p.f.s1 with sh := true = true } : Rl) } : F4)⟩ (by dsimp only [po_rest4] <;> (first | (exfalso ; omega) | exact ⟨by exact ⟨tr_shutO (i := 0) hinv rfl _, frz_other (i := 0) rfl fun _ => ⟨rfl, rfl⟩⟩, by first | rfl | exact hi0.2⟩))
  refine ifP (fun hc4 => ?_) (fun hc4 => ?_)
  exact fin_rest4 hK ⟨({ p.f with s2 := ({ p.f.s2 with sh := true = true } : Rl) } : F4)⟩ (by dsimp only [po_rest4] <;> (first | (exfalso ; omega) | exact ⟨by exact ⟨tr_shutO (i := 1) hinv rfl _, frz_other (i := 1) rfl fun _ => ⟨rfl, rfl⟩⟩, by first | rfl | exact hi0.2⟩))
  refine ifP (fun hc5 => ?_) (fun hc5 => ?_)
  exact fin_rest4 hK ⟨({ p.f with s3 := ({ p.f.s3 with sh := true = true } : Rl) } : F4)⟩ (by dsimp only [po_rest4] <;> (first | (exfalso ; omega) | exact ⟨by exact ⟨tr_shutO (i := 2) hinv rfl _, frz_other (i := 2) rfl fun _ => ⟨rfl, rfl⟩⟩, by first | rfl | exact hi0.2⟩))
  refine mustP (by omega) ?_
  rfl
  refine ifP (fun hc6 => ?_) (fun hc6 => ?_)
  refine ifP (fun hc7 => ?_) (fun hc7 => ?_)
  refine mustP (by omega) ?_
  refine mustP (by simp only [InR] ; omega) ?_
  refine mustP (by omega) ?_
  refine mustP (by first | omega | (constructor <;> omega)) ?_
  refine mustP (by omega) ?_
  refine allB_mk (fun x1 => ?_)
  refine ifP (fun hi8 => ?_) (fun _ => rfl)
  have hm := hinv.msgs x1 (List.mem_of_getElem? (by assumption))
  refine ifP (fun hc9 => ?_) (fun hc9 => ?_)
  refine mustP (by first | omega | (simp ; omega)) ?_
  refine mustP (by simp only [InR] ; omega) ?_
  refine mustP (by first | omega | (simp ; omega)) ?_
  refine mustP (rfl) ?_
  refine mustP (by first | omega | (simp ; omega)) ?_
  refine mustP (rfl) ?_
  refine mustP (rfl) ?_
  refine mustP (by first | omega | (simp ; omega)) ?_
  refine mustP (rfl) ?_
  refine mustP (by (first | omega | (simp [limP] <;> omega))) ?_
  refine ifP (fun hc10 => ?_) (fun hc10 => ?_)
  have hc10l : (((p.f.fly.drop 0).take (((Int.tmod ((Int.tmod p.i p.kk) + p.kk) p.kk).toNat) - 0))).length = 0 := (by rw [hc10] ; rfl)
  refine mustP (rfl) ?_
  refine mustP (by first | omega | (simp ; omega)) ?_
  refine mustP (rfl) ?_
  refine mustP (by (first | omega | (simp [limP] <;> omega))) ?_
  refine ifP (fun hc11 => ?_) (fun hc11 => ?_)
  have hc11l : (((p.f.fly.drop (((Int.tmod ((Int.tmod p.i p.kk) + p.kk) p.kk) + (1 : Int)).toNat)).take (p.f.fly.length - (((Int.tmod ((Int.tmod p.i p.kk) + p.kk) p.kk) + (1 : Int)).toNat)))).length = 0 := (by rw [hc11] ; rfl)
  refine mustP (rfl) ?_
  refine ifP (fun hc12 => ?_) (fun hc12 => ?_)
  refine callPR (⟨({ p.f with fly := ([] : List Told) } : F4), ⟨x1.to, x1.fr, x1.c, x1.h, x1.l⟩⟩ : A_come4) rfl (by (try dsimp only [pre_come4]) ; exact ⟨(hinv.sub (fun _ h => by simp at h) (by simp)), hm⟩) fun r1 hi13 => ?_
  dsimp only [po_come4] at hi13
  exact fin_rest4 hK ⟨r1.f⟩ (by dsimp only [po_rest4] <;> (first | (exfalso ; omega) | exact ⟨by exact hi13.1, by first | rfl | exact hi13.2⟩))
  exact fin_rest4 hK ⟨({ p.f with fly := ([] : List Told) } : F4)⟩ (by dsimp only [po_rest4] <;> (first | (exfalso ; omega) | exact ⟨by exact ⟨(hinv.sub (fun _ h => by simp at h) (by simp)), Frz.refl _⟩, by first | rfl | exact hi8.2⟩))
  have hc11l : 0 < (((p.f.fly.drop (((Int.tmod ((Int.tmod p.i p.kk) + p.kk) p.kk) + (1 : Int)).toNat)).take (p.f.fly.length - (((Int.tmod ((Int.tmod p.i p.kk) + p.kk) p.kk) + (1 : Int)).toNat)))).length := List.length_pos_iff.2 hc11
  refine mustP (by simp [limP] ; omega) ?_
  refine ifP (fun hc14 => ?_) (fun hc14 => ?_)
  refine callPR (⟨({ p.f with fly := (p.f.fly.drop (((Int.tmod ((Int.tmod p.i p.kk) + p.kk) p.kk) + (1 : Int)).toNat)).take (p.f.fly.length - (((Int.tmod ((Int.tmod p.i p.kk) + p.kk) p.kk) + (1 : Int)).toNat)) } : F4), ⟨x1.to, x1.fr, x1.c, x1.h, x1.l⟩⟩ : A_come4) rfl (by (try dsimp only [pre_come4]) ; exact ⟨(hinv.sub sub_one (by simp ; omega)), hm⟩) fun r2 hi15 => ?_
  dsimp only [po_come4] at hi15
  exact fin_rest4 hK ⟨r2.f⟩ (by dsimp only [po_rest4] <;> (first | (exfalso ; omega) | exact ⟨by exact hi15.1, by first | rfl | exact hi15.2⟩))
  exact fin_rest4 hK ⟨({ p.f with fly := (p.f.fly.drop (((Int.tmod ((Int.tmod p.i p.kk) + p.kk) p.kk) + (1 : Int)).toNat)).take (p.f.fly.length - (((Int.tmod ((Int.tmod p.i p.kk) + p.kk) p.kk) + (1 : Int)).toNat)) } : F4)⟩ (by dsimp only [po_rest4] <;> (first | (exfalso ; omega) | exact ⟨by exact ⟨(hinv.sub sub_one (by simp ; omega)), Frz.refl _⟩, by first | rfl | exact hi8.2⟩))
  have hc10l : 0 < (((p.f.fly.drop 0).take (((Int.tmod ((Int.tmod p.i p.kk) + p.kk) p.kk).toNat) - 0))).length := List.length_pos_iff.2 hc10
  refine mustP (by simp [limP] ; omega) ?_
  refine mustP (rfl) ?_
  refine mustP (by first | omega | (simp ; omega)) ?_
  refine mustP (rfl) ?_
  refine mustP (by (first | omega | (simp [limP] <;> omega))) ?_
  refine mustP (rfl) ?_
  refine ifP (fun hc16 => ?_) (fun hc16 => ?_)
  have hc16l : (((p.f.fly.drop (((Int.tmod ((Int.tmod p.i p.kk) + p.kk) p.kk) + (1 : Int)).toNat)).take (p.f.fly.length - (((Int.tmod ((Int.tmod p.i p.kk) + p.kk) p.kk) + (1 : Int)).toNat)))).length = 0 := (by rw [hc16] ; rfl)
  refine ifP (fun hc17 => ?_) (fun hc17 => ?_)
  refine callPR (⟨({ p.f with fly := (p.f.fly.drop 0).take (((Int.tmod ((Int.tmod p.i p.kk) + p.kk) p.kk).toNat) - 0) } : F4), ⟨x1.to, x1.fr, x1.c, x1.h, x1.l⟩⟩ : A_come4) rfl (by (try dsimp only [pre_come4]) ; exact ⟨(hinv.sub sub_one (by simp ; omega)), hm⟩) fun r4 hi18 => ?_
  dsimp only [po_come4] at hi18
  exact fin_rest4 hK ⟨r4.f⟩ (by dsimp only [po_rest4] <;> (first | (exfalso ; omega) | exact ⟨by exact hi18.1, by first | rfl | exact hi18.2⟩))
  exact fin_rest4 hK ⟨({ p.f with fly := (p.f.fly.drop 0).take (((Int.tmod ((Int.tmod p.i p.kk) + p.kk) p.kk).toNat) - 0) } : F4)⟩ (by dsimp only [po_rest4] <;> (first | (exfalso ; omega) | exact ⟨by exact ⟨(hinv.sub sub_one (by simp ; omega)), Frz.refl _⟩, by first | rfl | exact hi8.2⟩))
  have hc16l : 0 < (((p.f.fly.drop (((Int.tmod ((Int.tmod p.i p.kk) + p.kk) p.kk) + (1 : Int)).toNat)).take (p.f.fly.length - (((Int.tmod ((Int.tmod p.i p.kk) + p.kk) p.kk) + (1 : Int)).toNat)))).length := List.length_pos_iff.2 hc16
  refine exB_mk ((p.f.fly.drop (((Int.tmod ((Int.tmod p.i p.kk) + p.kk) p.kk) + (1 : Int)).toNat)).take (p.f.fly.length - (((Int.tmod ((Int.tmod p.i p.kk) + p.kk) p.kk) + (1 : Int)).toNat))) ?_
  refine mustP (show rowsR (((p.f.fly.drop (((Int.tmod ((Int.tmod p.i p.kk) + p.kk) p.kk) + (1 : Int)).toNat)).take (p.f.fly.length - (((Int.tmod ((Int.tmod p.i p.kk) + p.kk) p.kk) + (1 : Int)).toNat))).map encT) (((p.f.fly.drop (((Int.tmod ((Int.tmod p.i p.kk) + p.kk) p.kk) + (1 : Int)).toNat)).take (p.f.fly.length - (((Int.tmod ((Int.tmod p.i p.kk) + p.kk) p.kk) + (1 : Int)).toNat))).map encT) from rowsR_refl _) ?_
  refine mustP (by simp [limP] ; omega) ?_
  refine ifP (fun hc19 => ?_) (fun hc19 => ?_)
  refine callPR (⟨({ p.f with fly := ((p.f.fly.drop 0).take (((Int.tmod ((Int.tmod p.i p.kk) + p.kk) p.kk).toNat) - 0)) ++ ((p.f.fly.drop (((Int.tmod ((Int.tmod p.i p.kk) + p.kk) p.kk) + (1 : Int)).toNat)).take (p.f.fly.length - (((Int.tmod ((Int.tmod p.i p.kk) + p.kk) p.kk) + (1 : Int)).toNat))) } : F4), ⟨x1.to, x1.fr, x1.c, x1.h, x1.l⟩⟩ : A_come4) rfl (by (try dsimp only [pre_come4]) ; exact ⟨(hinv.sub sub_cut (by simp ; omega)), hm⟩) fun r3 hi20 => ?_
  dsimp only [po_come4] at hi20
  exact fin_rest4 hK ⟨r3.f⟩ (by dsimp only [po_rest4] <;> (first | (exfalso ; omega) | exact ⟨by exact hi20.1, by first | rfl | exact hi20.2⟩))
  exact fin_rest4 hK ⟨({ p.f with fly := ((p.f.fly.drop 0).take (((Int.tmod ((Int.tmod p.i p.kk) + p.kk) p.kk).toNat) - 0)) ++ ((p.f.fly.drop (((Int.tmod ((Int.tmod p.i p.kk) + p.kk) p.kk) + (1 : Int)).toNat)).take (p.f.fly.length - (((Int.tmod ((Int.tmod p.i p.kk) + p.kk) p.kk) + (1 : Int)).toNat))) } : F4)⟩ (by dsimp only [po_rest4] <;> (first | (exfalso ; omega) | exact ⟨by exact ⟨(hinv.sub sub_cut (by simp ; omega)), Frz.refl _⟩, by first | rfl | exact hi8.2⟩))
  refine ifP (fun hc21 => ?_) (fun hc21 => ?_)
  refine callPR (⟨p.f, ⟨x1.to, x1.fr, x1.c, x1.h, x1.l⟩⟩ : A_come4) rfl (by (try dsimp only [pre_come4]) ; exact ⟨hinv, hm⟩) fun r5 hi22 => ?_
  dsimp only [po_come4] at hi22
  exact fin_rest4 hK ⟨r5.f⟩ (by dsimp only [po_rest4] <;> (first | (exfalso ; omega) | exact ⟨by exact hi22.1, by first | rfl | exact hi22.2⟩))
  exact fin_rest4 hK ⟨p.f⟩ (by dsimp only [po_rest4] <;> (first | (exfalso ; omega) | exact ⟨by exact ⟨hinv, Frz.refl _⟩, by first | rfl | exact hi8.2⟩))
  exact fin_rest4 hK ⟨p.f⟩ (by dsimp only [po_rest4] <;> (first | (exfalso ; omega) | exact ⟨by exact ⟨hinv, Frz.refl _⟩, by first | rfl | exact hi0.2⟩))
  exact fin_rest4 hK ⟨p.f⟩ (by dsimp only [po_rest4] <;> (first | (exfalso ; omega) | exact ⟨by exact ⟨hinv, Frz.refl _⟩, by first | rfl | exact hi0.2⟩))
theorem lo_rest4 : LpOk Try.prog 203 1 lp_step4 false 0 bd_rest4 := by
  refine sp_of (lf := 600) tb_mix (cfT_ok nat_come4_ok) (by rfl) (fun b j x h => by cases h) (fun S M nx K h => ?_)
  obtain ⟨p, h⟩ := exB_ok h
  obtain ⟨e, h9⟩ := mustP_ok h
  clear h
  have e1 : S = (I_rest4 p).1 := congrArg Prod.fst e
  have e2 : M = (I_rest4 p).2.1 := congrArg (fun x => x.2.1) e
  have e3 : nx = (I_rest4 p).2.2 := congrArg (fun x => x.2.2) e
  subst e1; subst e2; subst e3
  exact vb_rest4 p K (mustP_ok h9).1 (mustP_ok h9).2
structure A_step4 where
  f : F4
  k : Int
  x : Int
  nn : Int
  i : Int
structure R_step4 where
  f : F4
def po_step4 (p : A_step4) (r : R_step4) : Prop := (FI4 r.f ∧ Fr4 p.f r.f) ∧ 0 ≤ r.f.cnt ∧ r.f.cnt ≤ p.f.cnt + 1
noncomputable def I_step4 (p : A_step4) : IE := ([.ptr 0 0, .agg [.sy (.int 0 p.k), .sy (.int 0 p.x), .sy (.int 0 p.nn), .sy (.int 0 p.i)]], (Fd4n p.f), 19)
noncomputable def out_step4 (p : A_step4) (K : KE) : Bool := allB fun r : R_step4 => ifB (prB (po_step4 p r)) (K (.tup []) (Fd4n r.f) 19) true
def pre_step4 (p : A_step4) : Prop := FI4 p.f ∧ 0 ≤ p.f.cnt ∧ p.f.cnt ≤ 1000000
theorem fin_step4 {p : A_step4} {K : KE} (hK : out_step4 p K = true) (r : R_step4) (h : po_step4 p r) : K (.tup []) (Fd4n r.f) 19 = true := ifB_use h (allB_ok hK r)
theorem vf_step4 (p : A_step4) (K : KE) (hpre : pre_step4 p) (hK : out_step4 p K = true) : (funE 1 (cfT nat_come4) lp_step4 600 ft_step4 (I_step4 p).1 (I_step4 p).2.1 (I_step4 p).2.2 K) = true := by
  refine Eq.trans (b := (let y0 : Int := (Int.tmod ((Int.tmod p.x (4 : Int)) + (4 : Int)) (4 : Int)); let y1 : Int := ((Int.tmod p.nn (3 : Int)) + (3 : Int)); must (prB ((4 : Int) ≠ 0)) (must (prB (InR 0 ((Int.tmod p.x (4 : Int)) + (4 : Int)))) (must (prB ((4 : Int) ≠ 0)) (ifB (prB (p.k = (0 : Int))) (must (prB (InR 0 (p.f.cnt + (1 : Int)))) (must (prB ((16 : Int) ≠ 0)) (must (prB (InR 1 (Int.tmod (p.f.cnt + (1 : Int)) (16 : Int)))) (exB fun p1 : A_add4 => must (prB (([.ptr 0 0, .agg [.int 1 (.ofNat 2), .int 1 (.ofNat 0), .int 2 (.ofNat 0), .int 3 (.ofNat 0), .int 1 (.ofNat 0), .int 1 (.ofNat 0), .int 1 (.ofNat 0), .int 1 (.ofNat 0), .int 1 (.ofNat 0), .int 1 (.ofNat 0), .int 1 (.ofNat 0), .int 3 (.ofNat 0), .nilS, .int 1 (.ofNat 0), .str [], .nilS, .sy (.int 1 (Int.tmod (p.f.cnt + (1 : Int)) (16 : Int))), .int 2 (.ofNat 1)]], (Ro4n p.f.s0.l p.f.s0.com p.f.s0.sh p.f.c0 p.f.c1 p.f.c2 p.f.c3), 4) = I_add4 p1)) (must (prB (pre_add4 p1)) (allB fun r1 : R_add4 => ifB (prB (po_add4 p1 r1)) (K (.tup []) (Fd4n ⟨⟨r1.l, r1.com, p1.sh⟩, p.f.s1, p.f.s2, p.f.s3, r1.c0, p1.c1, p1.c2, p1.c3, p.f.fly, p.f.cnt + (1 : Int)⟩) 19) true)))))) (ifB (prB (p.k = (1 : Int))) (ifB (prB ((0 : Int) < y0)) (ifB (prB ((p.f.fly.length : Int) < (100 : Int))) (must (prB ((3 : Int) ≠ 0)) (must (prB (InR 0 y1)) (must (prB ((3 : Int) ≠ 0)) (must (prB (InR 0 ((1 : Int) + (Int.tmod y1 (3 : Int))))) (must (prB (InR 1 y0)) (must (prB (((.int 0 p.nn) : SY) = (.int 0 p.nn))) (exB fun p2 : A_since4 => must (prB (([.ptr 0 0, .agg [.sy (.int 1 y0), .int 2 (.ofNat 1)], .sy (.int 0 ((1 : Int) + (Int.tmod y1 (3 : Int))))], (Ro4n p.f.s0.l p.f.s0.com p.f.s0.sh p.f.c0 p.f.c1 p.f.c2 p.f.c3), 4) = I_since4 p2)) (must (prB (pre_since4 p2)) (allB fun r2 : R_since4 => ifB (prB (po_since4 p2 r2)) (must (prB (((.prow 2 p.f.fly.length) : SY) = (.prow 2 p.f.fly.length))) (must (prB (((.prow 2 p.f.fly.length) : SY) = (.prow 2 p.f.fly.length))) (must (prB (p.f.fly.length = p.f.fly.length)) (exB fun m1 : List Told => must (prB (rowsR (m1.map encT) [[.sint 0 y0, .sint 0 r2.fr, .sint 0 p2.com, .imm r2.h 18 Int r2.o encK]])) (must (prB (limP 48 (p.f.fly.length + m1.length))) (K (.tup []) (Fd4 ⟨⟨p2.l, p2.com, p2.sh⟩, p.f.s1, p.f.s2, p.f.s3, p2.c0, p2.c1, p2.c2, p2.c3, p.f.fly ++ m1, p.f.cnt⟩ ((p.f.fly ++ m1).length) p2.l.length p.f.s1.l.length p.f.s2.l.length p.f.s3.l.length) 19)))))) true))))))))) (ifB (prB (p.k = (2 : Int))) (ifB (prB ((0 : Int) < y0)) (ifB (prB ((p.f.fly.length : Int) < (100 : Int))) (ifB (prB (y0 = 0)) (must (prB (((.prow 2 p.f.fly.length) : SY) = (.prow 2 p.f.fly.length))) (must (prB (((.prow 2 p.f.fly.length) : SY) = (.prow 2 p.f.fly.length))) (must (prB (p.f.fly.length = p.f.fly.length)) (exB fun m5 : List Told => must (prB (rowsR (m5.map encT) [[.int 0 (.ofNat 0), .sint 0 (p.f.s0.l.length : Int), .sint 0 y0, .nilS]])) (must (prB (limP 48 (p.f.fly.length + m5.length))) (K (.tup []) (Fd4 ({ p.f with fly := p.f.fly ++ m5 } : F4) ((p.f.fly ++ m5).length) p.f.s0.l.length p.f.s1.l.length p.f.s2.l.length p.f.s3.l.length) 19)))))) (ifB (prB (y0 = 1)) (must (prB (((.prow 2 p.f.fly.length) : SY) = (.prow 2 p.f.fly.length))) (must (prB (((.prow 2 p.f.fly.length) : SY) = (.prow 2 p.f.fly.length))) (must (prB (p.f.fly.length = p.f.fly.length)) (exB fun m4 : List Told => must (prB (rowsR (m4.map encT) [[.int 0 (.ofNat 0), .sint 0 (p.f.s1.l.length : Int), .sint 0 y0, .nilS]])) (must (prB (limP 48 (p.f.fly.length + m4.length))) (K (.tup []) (Fd4 ({ p.f with fly := p.f.fly ++ m4 } : F4) ((p.f.fly ++ m4).length) p.f.s0.l.length p.f.s1.l.length p.f.s2.l.length p.f.s3.l.length) 19)))))) (ifB (prB (y0 = 2)) (must (prB (((.prow 2 p.f.fly.length) : SY) = (.prow 2 p.f.fly.length))) (must (prB (((.prow 2 p.f.fly.length) : SY) = (.prow 2 p.f.fly.length))) (must (prB (p.f.fly.length = p.f.fly.length)) (exB fun m3 : List Told => must (prB (rowsR (m3.map encT) [[.int 0 (.ofNat 0), .sint 0 (p.f.s2.l.length : Int), .sint 0 y0, .nilS]])) (must (prB (limP 48 (p.f.fly.length + m3.length))) (K (.tup []) (Fd4 ({ p.f with fly := p.f.fly ++ m3 } : F4) ((p.f.fly ++ m3).length) p.f.s0.l.length p.f.s1.l.length p.f.s2.l.length p.f.s3.l.length) 19)))))) (ifB (prB (y0 = 3)) (must (prB (((.prow 2 p.f.fly.length) : SY) = (.prow 2 p.f.fly.length))) (must (prB (((.prow 2 p.f.fly.length) : SY) = (.prow 2 p.f.fly.length))) (must (prB (p.f.fly.length = p.f.fly.length)) (exB fun m2 : List Told => must (prB (rowsR (m2.map encT) [[.int 0 (.ofNat 0), .sint 0 (p.f.s3.l.length : Int), .sint 0 y0, .nilS]])) (must (prB (limP 48 (p.f.fly.length + m2.length))) (K (.tup []) (Fd4 ({ p.f with fly := p.f.fly ++ m2 } : F4) ((p.f.fly ++ m2).length) p.f.s0.l.length p.f.s1.l.length p.f.s2.l.length p.f.s3.l.length) 19)))))) (must (prB (False)) (true)))))) (exB fun p3 : A_rest4 => must (prB (((.cons 5 (.sy (.int 0 (p.f.fly.length : Int))) (.cons 4 (.sy (.int 0 y0)) (.cons 3 (.ptr 1 0) (.cons 0 (.ptr 0 0) .nil)))), (Fb4n p.f p.k p.x p.nn p.i), 20) = I_rest4 p3)) (must (prB (pre_rest4 p3)) (allB fun r3 : R_rest4 => ifB (prB (po_rest4 p3 r3)) (K (.tup []) (Fd4n r3.f) 19) true)))) (exB fun p4 : A_rest4 => must (prB (((.cons 5 (.sy (.int 0 (p.f.fly.length : Int))) (.cons 4 (.sy (.int 0 y0)) (.cons 3 (.ptr 1 0) (.cons 0 (.ptr 0 0) .nil)))), (Fb4n p.f p.k p.x p.nn p.i), 20) = I_rest4 p4)) (must (prB (pre_rest4 p4)) (allB fun r4 : R_rest4 => ifB (prB (po_rest4 p4 r4)) (K (.tup []) (Fd4n r4.f) 19) true)))) (exB fun p5 : A_rest4 => must (prB (((.cons 5 (.sy (.int 0 (p.f.fly.length : Int))) (.cons 4 (.sy (.int 0 y0)) (.cons 3 (.ptr 1 0) (.cons 0 (.ptr 0 0) .nil)))), (Fb4n p.f p.k p.x p.nn p.i), 20) = I_rest4 p5)) (must (prB (pre_rest4 p5)) (allB fun r5 : R_rest4 => ifB (prB (po_rest4 p5 r5)) (K (.tup []) (Fd4n r5.f) 19) true))))) (ifB (prB (p.k = (2 : Int))) (ifB (prB ((0 : Int) < y0)) (ifB (prB ((p.f.fly.length : Int) < (100 : Int))) (ifB (prB (y0 = 0)) (must (prB (((.prow 2 p.f.fly.length) : SY) = (.prow 2 p.f.fly.length))) (must (prB (((.prow 2 p.f.fly.length) : SY) = (.prow 2 p.f.fly.length))) (must (prB (p.f.fly.length = p.f.fly.length)) (exB fun m9 : List Told => must (prB (rowsR (m9.map encT) [[.int 0 (.ofNat 0), .sint 0 (p.f.s0.l.length : Int), .sint 0 y0, .nilS]])) (must (prB (limP 48 (p.f.fly.length + m9.length))) (K (.tup []) (Fd4 ({ p.f with fly := p.f.fly ++ m9 } : F4) ((p.f.fly ++ m9).length) p.f.s0.l.length p.f.s1.l.length p.f.s2.l.length p.f.s3.l.length) 19)))))) (ifB (prB (y0 = 1)) (must (prB (((.prow 2 p.f.fly.length) : SY) = (.prow 2 p.f.fly.length))) (must (prB (((.prow 2 p.f.fly.length) : SY) = (.prow 2 p.f.fly.length))) (must (prB (p.f.fly.length = p.f.fly.length)) (exB fun m8 : List Told => must (prB (rowsR (m8.map encT) [[.int 0 (.ofNat 0), .sint 0 (p.f.s1.l.length : Int), .sint 0 y0, .nilS]])) (must (prB (limP 48 (p.f.fly.length + m8.length))) (K (.tup []) (Fd4 ({ p.f with fly := p.f.fly ++ m8 } : F4) ((p.f.fly ++ m8).length) p.f.s0.l.length p.f.s1.l.length p.f.s2.l.length p.f.s3.l.length) 19)))))) (ifB (prB (y0 = 2)) (must (prB (((.prow 2 p.f.fly.length) : SY) = (.prow 2 p.f.fly.length))) (must (prB (((.prow 2 p.f.fly.length) : SY) = (.prow 2 p.f.fly.length))) (must (prB (p.f.fly.length = p.f.fly.length)) (exB fun m7 : List Told => must (prB (rowsR (m7.map encT) [[.int 0 (.ofNat 0), .sint 0 (p.f.s2.l.length : Int), .sint 0 y0, .nilS]])) (must (prB (limP 48 (p.f.fly.length + m7.length))) (K (.tup []) (Fd4 ({ p.f with fly := p.f.fly ++ m7 } : F4) ((p.f.fly ++ m7).length) p.f.s0.l.length p.f.s1.l.length p.f.s2.l.length p.f.s3.l.length) 19)))))) (ifB (prB (y0 = 3)) (must (prB (((.prow 2 p.f.fly.length) : SY) = (.prow 2 p.f.fly.length))) (must (prB (((.prow 2 p.f.fly.length) : SY) = (.prow 2 p.f.fly.length))) (must (prB (p.f.fly.length = p.f.fly.length)) (exB fun m6 : List Told => must (prB (rowsR (m6.map encT) [[.int 0 (.ofNat 0), .sint 0 (p.f.s3.l.length : Int), .sint 0 y0, .nilS]])) (must (prB (limP 48 (p.f.fly.length + m6.length))) (K (.tup []) (Fd4 ({ p.f with fly := p.f.fly ++ m6 } : F4) ((p.f.fly ++ m6).length) p.f.s0.l.length p.f.s1.l.length p.f.s2.l.length p.f.s3.l.length) 19)))))) (must (prB (False)) (true)))))) (exB fun p6 : A_rest4 => must (prB (((.cons 5 (.sy (.int 0 (p.f.fly.length : Int))) (.cons 4 (.sy (.int 0 y0)) (.cons 3 (.ptr 1 0) (.cons 0 (.ptr 0 0) .nil)))), (Fb4n p.f p.k p.x p.nn p.i), 20) = I_rest4 p6)) (must (prB (pre_rest4 p6)) (allB fun r6 : R_rest4 => ifB (prB (po_rest4 p6 r6)) (K (.tup []) (Fd4n r6.f) 19) true)))) (exB fun p7 : A_rest4 => must (prB (((.cons 5 (.sy (.int 0 (p.f.fly.length : Int))) (.cons 4 (.sy (.int 0 y0)) (.cons 3 (.ptr 1 0) (.cons 0 (.ptr 0 0) .nil)))), (Fb4n p.f p.k p.x p.nn p.i), 20) = I_rest4 p7)) (must (prB (pre_rest4 p7)) (allB fun r7 : R_rest4 => ifB (prB (po_rest4 p7 r7)) (K (.tup []) (Fd4n r7.f) 19) true)))) (exB fun p8 : A_rest4 => must (prB (((.cons 5 (.sy (.int 0 (p.f.fly.length : Int))) (.cons 4 (.sy (.int 0 y0)) (.cons 3 (.ptr 1 0) (.cons 0 (.ptr 0 0) .nil)))), (Fb4n p.f p.k p.x p.nn p.i), 20) = I_rest4 p8)) (must (prB (pre_rest4 p8)) (allB fun r8 : R_rest4 => ifB (prB (po_rest4 p8 r8)) (K (.tup []) (Fd4n r8.f) 19) true))))) (ifB (prB (p.k = (2 : Int))) (ifB (prB ((0 : Int) < y0)) (ifB (prB ((p.f.fly.length : Int) < (100 : Int))) (ifB (prB (y0 = 0)) (must (prB (((.prow 2 p.f.fly.length) : SY) = (.prow 2 p.f.fly.length))) (must (prB (((.prow 2 p.f.fly.length) : SY) = (.prow 2 p.f.fly.length))) (must (prB (p.f.fly.length = p.f.fly.length)) (exB fun m13 : List Told => must (prB (rowsR (m13.map encT) [[.int 0 (.ofNat 0), .sint 0 (p.f.s0.l.length : Int), .sint 0 y0, .nilS]])) (must (prB (limP 48 (p.f.fly.length + m13.length))) (K (.tup []) (Fd4 ({ p.f with fly := p.f.fly ++ m13 } : F4) ((p.f.fly ++ m13).length) p.f.s0.l.length p.f.s1.l.length p.f.s2.l.length p.f.s3.l.length) 19)))))) (ifB (prB (y0 = 1)) (must (prB (((.prow 2 p.f.fly.length) : SY) = (.prow 2 p.f.fly.length))) (must (prB (((.prow 2 p.f.fly.length) : SY) = (.prow 2 p.f.fly.length))) (must (prB (p.f.fly.length = p.f.fly.length)) (exB fun m12 : List Told => must (prB (rowsR (m12.map encT) [[.int 0 (.ofNat 0), .sint 0 (p.f.s1.l.length : Int), .sint 0 y0, .nilS]])) (must (prB (limP 48 (p.f.fly.length + m12.length))) (K (.tup []) (Fd4 ({ p.f with fly := p.f.fly ++ m12 } : F4) ((p.f.fly ++ m12).length) p.f.s0.l.length p.f.s1.l.length p.f.s2.l.length p.f.s3.l.length) 19)))))) (ifB (prB (y0 = 2)) (must (prB (((.prow 2 p.f.fly.length) : SY) = (.prow 2 p.f.fly.length))) (must (prB (((.prow 2 p.f.fly.length) : SY) = (.prow 2 p.f.fly.length))) (must (prB (p.f.fly.length = p.f.fly.length)) (exB fun m11 : List Told => must (prB (rowsR (m11.map encT) [[.int 0 (.ofNat 0), .sint 0 (p.f.s2.l.length : Int), .sint 0 y0, .nilS]])) (must (prB (limP 48 (p.f.fly.length + m11.length))) (K (.tup []) (Fd4 ({ p.f with fly := p.f.fly ++ m11 } : F4) ((p.f.fly ++ m11).length) p.f.s0.l.length p.f.s1.l.length p.f.s2.l.length p.f.s3.l.length) 19)))))) (ifB (prB (y0 = 3)) (must (prB (((.prow 2 p.f.fly.length) : SY) = (.prow 2 p.f.fly.length))) (must (prB (((.prow 2 p.f.fly.length) : SY) = (.prow 2 p.f.fly.length))) (must (prB (p.f.fly.length = p.f.fly.length)) (exB fun m10 : List Told => must (prB (rowsR (m10.map encT) [[.int 0 (.ofNat 0), .sint 0 (p.f.s3.l.length : Int), .sint 0 y0, .nilS]])) (must (prB (limP 48 (p.f.fly.length + m10.length))) (K (.tup []) (Fd4 ({ p.f with fly := p.f.fly ++ m10 } : F4) ((p.f.fly ++ m10).length) p.f.s0.l.length p.f.s1.l.length p.f.s2.l.length p.f.s3.l.length) 19)))))) (must (prB (False)) (true)))))) (exB fun p9 : A_rest4 => must (prB (((.cons 5 (.sy (.int 0 (p.f.fly.length : Int))) (.cons 4 (.sy (.int 0 y0)) (.cons 3 (.ptr 1 0) (.cons 0 (.ptr 0 0) .nil)))), (Fb4n p.f p.k p.x p.nn p.i), 20) = I_rest4 p9)) (must (prB (pre_rest4 p9)) (allB fun r9 : R_rest4 => ifB (prB (po_rest4 p9 r9)) (K (.tup []) (Fd4n r9.f) 19) true)))) (exB fun p10 : A_rest4 => must (prB (((.cons 5 (.sy (.int 0 (p.f.fly.length : Int))) (.cons 4 (.sy (.int 0 y0)) (.cons 3 (.ptr 1 0) (.cons 0 (.ptr 0 0) .nil)))), (Fb4n p.f p.k p.x p.nn p.i), 20) = I_rest4 p10)) (must (prB (pre_rest4 p10)) (allB fun r10 : R_rest4 => ifB (prB (po_rest4 p10 r10)) (K (.tup []) (Fd4n r10.f) 19) true)))) (exB fun p11 : A_rest4 => must (prB (((.cons 5 (.sy (.int 0 (p.f.fly.length : Int))) (.cons 4 (.sy (.int 0 y0)) (.cons 3 (.ptr 1 0) (.cons 0 (.ptr 0 0) .nil)))), (Fb4n p.f p.k p.x p.nn p.i), 20) = I_rest4 p11)) (must (prB (pre_rest4 p11)) (allB fun r11 : R_rest4 => ifB (prB (po_rest4 p11 r11)) (K (.tup []) (Fd4n r11.f) 19) true)))))))))) (by kernel_rfl) ?_
  dsimp only [pre_step4] at hpre
  obtain ⟨hinv, k1, k2⟩ := hpre
  have hinv : FInv p.f.s0 _ _ p.f.fly := hinv
  have hs : p.f.s0.l.length ≤ 400 := hinv.short
  have hfew : p.f.fly.length ≤ 100 := hinv.few
  have f0 : p.f.c0 ≤ (p.f.s0.l.length : Int) ∧ 0 ≤ p.f.c0 ∧ p.f.s0.l.length ≤ p.f.s0.l.length := ⟨(hinv.each 0 _ _ rfl rfl).cl, (hinv.each 0 _ _ rfl rfl).c0, (hinv.each 0 _ _ rfl rfl).len⟩
  have f1 : p.f.c1 ≤ (p.f.s1.l.length : Int) ∧ 0 ≤ p.f.c1 ∧ p.f.s1.l.length ≤ p.f.s0.l.length := ⟨(hinv.each 1 _ _ rfl rfl).cl, (hinv.each 1 _ _ rfl rfl).c0, (hinv.each 1 _ _ rfl rfl).len⟩
  have f2 : p.f.c2 ≤ (p.f.s2.l.length : Int) ∧ 0 ≤ p.f.c2 ∧ p.f.s2.l.length ≤ p.f.s0.l.length := ⟨(hinv.each 2 _ _ rfl rfl).cl, (hinv.each 2 _ _ rfl rfl).c0, (hinv.each 2 _ _ rfl rfl).len⟩
  have f3 : p.f.c3 ≤ (p.f.s3.l.length : Int) ∧ 0 ≤ p.f.c3 ∧ p.f.s3.l.length ≤ p.f.s0.l.length := ⟨(hinv.each 3 _ _ rfl rfl).cl, (hinv.each 3 _ _ rfl rfl).c0, (hinv.each 3 _ _ rfl rfl).len⟩
  have t1 := tmb 4 (by decide) p.x
  have t2 := tmp 4 (by decide) (p.x.tmod 4 + 4) (by omega)
  have t3 := tmb 3 (by decide) p.nn
  have t4 := tmp 3 (by decide) (p.nn.tmod 3 + 3) (by omega)
  have t5 := tmp 16 (by decide) (p.f.cnt + 1) (by omega)
  refine mustP (by decide) ?_
  refine mustP (by simp only [InR] ; omega) ?_
  refine mustP (by decide) ?_
  refine ifP (fun hc1 => ?_) (fun hc1 => ?_)
  refine mustP (by simp only [InR] ; omega) ?_
  refine mustP (by decide) ?_
  refine mustP (by simp only [InR] ; omega) ?_
  refine callPR (⟨p.f.s0.l, p.f.s0.com, p.f.s0.sh, p.f.c0, p.f.c1, p.f.c2, p.f.c3, Int.tmod (p.f.cnt + (1 : Int)) (16 : Int)⟩ : A_add4) rfl (by (try dsimp only [pre_add4]) ; omega) fun r1 hi2 => ?_
  dsimp only [po_add4] at hi2
  exact fin_step4 hK ⟨⟨⟨r1.l, r1.com, p.f.s0.sh⟩, p.f.s1, p.f.s2, p.f.s3, r1.c0, p.f.c1, p.f.c2, p.f.c3, p.f.fly, p.f.cnt + (1 : Int)⟩⟩ (by dsimp only [po_step4] <;> (refine ⟨?_, by omega, by omega⟩ ; first | (exfalso ; omega) | exact tr_add (maj := 3) hinv (by simp) (by assumption)))
  refine ifP (fun hc3 => ?_) (fun hc3 => ?_)
  refine ifP (fun hc4 => ?_) (fun hc4 => ?_)
  refine ifP (fun hc5 => ?_) (fun hc5 => ?_)
  refine mustP (by decide) ?_
  refine mustP (by simp only [InR] ; omega) ?_
  refine mustP (by decide) ?_
  refine mustP (by simp only [InR] ; omega) ?_
  refine mustP (by simp only [InR] ; omega) ?_
  refine mustP (rfl) ?_
  refine callPR (⟨p.f.s0.l, p.f.s0.com, p.f.s0.sh, p.f.c0, p.f.c1, p.f.c2, p.f.c3, Int.tmod ((Int.tmod p.x (4 : Int)) + (4 : Int)) (4 : Int), (1 : Int) + (Int.tmod ((Int.tmod p.nn (3 : Int)) + (3 : Int)) (3 : Int))⟩ : A_since4) rfl (by (try dsimp only [pre_since4]) ; omega) fun r2 hi6 => ?_
  dsimp only [po_since4] at hi6
  refine mustP (rfl) ?_
  refine mustP (rfl) ?_
  refine mustP (rfl) ?_
  refine exB_mk [⟨Int.tmod ((Int.tmod p.x (4 : Int)) + (4 : Int)) (4 : Int), r2.fr, p.f.s0.com, r2.h, r2.o⟩] ?_
  refine mustP (show rowsR ([⟨Int.tmod ((Int.tmod p.x (4 : Int)) + (4 : Int)) (4 : Int), r2.fr, p.f.s0.com, r2.h, r2.o⟩].map encT) [[.sint 0 (Int.tmod ((Int.tmod p.x (4 : Int)) + (4 : Int)) (4 : Int)), .sint 0 r2.fr, .sint 0 p.f.s0.com, .imm r2.h 18 Int r2.o encK]] from ⟨⟨.inl rfl, ⟨.inl rfl, ⟨.inl rfl, ⟨.inl rfl, trivial⟩⟩⟩⟩, trivial⟩) ?_
  refine mustP (by simp [limP] ; omega) ?_
  exact fin_step4 hK ⟨⟨⟨p.f.s0.l, p.f.s0.com, p.f.s0.sh⟩, p.f.s1, p.f.s2, p.f.s3, p.f.c0, p.f.c1, p.f.c2, p.f.c3, p.f.fly ++ [⟨Int.tmod ((Int.tmod p.x (4 : Int)) + (4 : Int)) (4 : Int), r2.fr, p.f.s0.com, r2.h, r2.o⟩], p.f.cnt⟩⟩ (by dsimp only [po_step4] <;> (refine ⟨?_, by omega, by omega⟩ ; first | (exfalso ; omega) | exact ⟨tr_since (m := 4) hinv (by omega) (by simp) (by omega) (by assumption), Frz.refl _⟩))
  refine ifP (fun hc7 => ?_) (fun hc7 => ?_)
  refine ifP (fun hc8 => ?_) (fun hc8 => ?_)
  refine ifP (fun hc9 => ?_) (fun hc9 => ?_)
  refine ifP (fun hc10 => ?_) (fun hc10 => ?_)
  refine mustP (rfl) ?_
  refine mustP (rfl) ?_
  refine mustP (rfl) ?_
  refine exB_mk [⟨(0 : Int), (p.f.s0.l.length : Int), Int.tmod ((Int.tmod p.x (4 : Int)) + (4 : Int)) (4 : Int), (.slice none 0 0), []⟩] ?_
  refine mustP (show rowsR ([⟨(0 : Int), (p.f.s0.l.length : Int), Int.tmod ((Int.tmod p.x (4 : Int)) + (4 : Int)) (4 : Int), (.slice none 0 0), []⟩].map encT) [[.int 0 (.ofNat 0), .sint 0 (p.f.s0.l.length : Int), .sint 0 (Int.tmod ((Int.tmod p.x (4 : Int)) + (4 : Int)) (4 : Int)), .nilS]] from ⟨⟨.inr (.inl ⟨_, _, rfl, rfl⟩), ⟨.inl rfl, ⟨.inl rfl, ⟨.inr (.inr ⟨_, _, _, by decide, rfl, rfl⟩), trivial⟩⟩⟩⟩, trivial⟩) ?_
  refine mustP (by simp [limP] ; omega) ?_
  exact fin_step4 hK ⟨({ p.f with fly := p.f.fly ++ [⟨(0 : Int), (p.f.s0.l.length : Int), Int.tmod ((Int.tmod p.x (4 : Int)) + (4 : Int)) (4 : Int), (.slice none 0 0), []⟩] } : F4)⟩ (by dsimp only [po_step4] <;> (refine ⟨?_, by omega, by omega⟩ ; first | (exfalso ; omega) | exact ⟨tr_len (j := 0) hinv (by omega) rfl (by omega) rfl, Frz.refl _⟩ | exact ⟨tr_len (j := 1) hinv (by omega) rfl (by omega) rfl, Frz.refl _⟩ | exact ⟨tr_len (j := 2) hinv (by omega) rfl (by omega) rfl, Frz.refl _⟩ | exact ⟨tr_len (j := 3) hinv (by omega) rfl (by omega) rfl, Frz.refl _⟩))
  refine ifP (fun hc11 => ?_) (fun hc11 => ?_)
  refine mustP (rfl) ?_
  refine mustP (rfl) ?_
  refine mustP (rfl) ?_
  refine exB_mk [⟨(0 : Int), (p.f.s1.l.length : Int), Int.tmod ((Int.tmod p.x (4 : Int)) + (4 : Int)) (4 : Int), (.slice none 0 0), []⟩] ?_
  refine mustP (show rowsR ([⟨(0 : Int), (p.f.s1.l.length : Int), Int.tmod ((Int.tmod p.x (4 : Int)) + (4 : Int)) (4 : Int), (.slice none 0 0), []⟩].map encT) [[.int 0 (.ofNat 0), .sint 0 (p.f.s1.l.length : Int), .sint 0 (Int.tmod ((Int.tmod p.x (4 : Int)) + (4 : Int)) (4 : Int)), .nilS]] from ⟨⟨.inr (.inl ⟨_, _, rfl, rfl⟩), ⟨.inl rfl, ⟨.inl rfl, ⟨.inr (.inr ⟨_, _, _, by decide, rfl, rfl⟩), trivial⟩⟩⟩⟩, trivial⟩) ?_
  refine mustP (by simp [limP] ; omega) ?_
  exact fin_step4 hK ⟨({ p.f with fly := p.f.fly ++ [⟨(0 : Int), (p.f.s1.l.length : Int), Int.tmod ((Int.tmod p.x (4 : Int)) + (4 : Int)) (4 : Int), (.slice none 0 0), []⟩] } : F4)⟩ (by dsimp only [po_step4] <;> (refine ⟨?_, by omega, by omega⟩ ; first | (exfalso ; omega) | exact ⟨tr_len (j := 0) hinv (by omega) rfl (by omega) rfl, Frz.refl _⟩ | exact ⟨tr_len (j := 1) hinv (by omega) rfl (by omega) rfl, Frz.refl _⟩ | exact ⟨tr_len (j := 2) hinv (by omega) rfl (by omega) rfl, Frz.refl _⟩ | exact ⟨tr_len (j := 3) hinv (by omega) rfl (by omega) rfl, Frz.refl _⟩))
  refine ifP (fun hc12 => ?_) (fun hc12 => ?_)
  refine mustP (rfl) ?_
  refine mustP (rfl) ?_
  refine mustP (rfl) ?_
  refine exB_mk [⟨(0 : Int), (p.f.s2.l.length : Int), Int.tmod ((Int.tmod p.x (4 : Int)) + (4 : Int)) (4 : Int), (.slice none 0 0), []⟩] ?_
  refine mustP (show rowsR ([⟨(0 : Int), (p.f.s2.l.length : Int), Int.tmod ((Int.tmod p.x (4 : Int)) + (4 : Int)) (4 : Int), (.slice none 0 0), []⟩].map encT) [[.int 0 (.ofNat 0), .sint 0 (p.f.s2.l.length : Int), .sint 0 (Int.tmod ((Int.tmod p.x (4 : Int)) + (4 : Int)) (4 : Int)), .nilS]] from ⟨⟨.inr (.inl ⟨_, _, rfl, rfl⟩), ⟨.inl rfl, ⟨.inl rfl, ⟨.inr (.inr ⟨_, _, _, by decide, rfl, rfl⟩), trivial⟩⟩⟩⟩, trivial⟩) ?_
  refine mustP (by simp [limP] ; omega) ?_
  exact fin_step4 hK ⟨({ p.f with fly := p.f.fly ++ [⟨(0 : Int), (p.f.s2.l.length : Int), Int.tmod ((Int.tmod p.x (4 : Int)) + (4 : Int)) (4 : Int), (.slice none 0 0), []⟩] } : F4)⟩ (by dsimp only [po_step4] <;> (refine ⟨?_, by omega, by omega⟩ ; first | (exfalso ; omega) | exact ⟨tr_len (j := 0) hinv (by omega) rfl (by omega) rfl, Frz.refl _⟩ | exact ⟨tr_len (j := 1) hinv (by omega) rfl (by omega) rfl, Frz.refl _⟩ | exact ⟨tr_len (j := 2) hinv (by omega) rfl (by omega) rfl, Frz.refl _⟩ | exact ⟨tr_len (j := 3) hinv (by omega) rfl (by omega) rfl, Frz.refl _⟩))
  refine ifP (fun hc13 => ?_) (fun hc13 => ?_)
  refine mustP (rfl) ?_
  refine mustP (rfl) ?_
  refine mustP (rfl) ?_
  refine exB_mk [⟨(0 : Int), (p.f.s3.l.length : Int), Int.tmod ((Int.tmod p.x (4 : Int)) + (4 : Int)) (4 : Int), (.slice none 0 0), []⟩] ?_
  refine mustP (show rowsR ([⟨(0 : Int), (p.f.s3.l.length : Int), Int.tmod ((Int.tmod p.x (4 : Int)) + (4 : Int)) (4 : Int), (.slice none 0 0), []⟩].map encT) [[.int 0 (.ofNat 0), .sint 0 (p.f.s3.l.length : Int), .sint 0 (Int.tmod ((Int.tmod p.x (4 : Int)) + (4 : Int)) (4 : Int)), .nilS]] from ⟨⟨.inr (.inl ⟨_, _, rfl, rfl⟩), ⟨.inl rfl, ⟨.inl rfl, ⟨.inr (.inr ⟨_, _, _, by decide, rfl, rfl⟩), trivial⟩⟩⟩⟩, trivial⟩) ?_
  refine mustP (by simp [limP] ; omega) ?_
  exact fin_step4 hK ⟨({ p.f with fly := p.f.fly ++ [⟨(0 : Int), (p.f.s3.l.length : Int), Int.tmod ((Int.tmod p.x (4 : Int)) + (4 : Int)) (4 : Int), (.slice none 0 0), []⟩] } : F4)⟩ (by dsimp only [po_step4] <;> (refine ⟨?_, by omega, by omega⟩ ; first | (exfalso ; omega) | exact ⟨tr_len (j := 0) hinv (by omega) rfl (by omega) rfl, Frz.refl _⟩ | exact ⟨tr_len (j := 1) hinv (by omega) rfl (by omega) rfl, Frz.refl _⟩ | exact ⟨tr_len (j := 2) hinv (by omega) rfl (by omega) rfl, Frz.refl _⟩ | exact ⟨tr_len (j := 3) hinv (by omega) rfl (by omega) rfl, Frz.refl _⟩))
  refine mustP (by omega) ?_
  rfl
  refine callPR (⟨p.f, p.k, p.x, p.nn, p.i, Int.tmod ((Int.tmod p.x (4 : Int)) + (4 : Int)) (4 : Int), (p.f.fly.length : Int)⟩ : A_rest4) rfl (by (try dsimp only [pre_rest4]) ; exact ⟨hinv, by omega, by omega, by omega, by omega, by omega⟩) fun r3 hi14 => ?_
  dsimp only [po_rest4] at hi14
  exact fin_step4 hK ⟨r3.f⟩ (by dsimp only [po_step4] <;> (refine ⟨?_, by omega, by omega⟩ ; first | (exfalso ; omega) | exact hi14.1))
  refine callPR (⟨p.f, p.k, p.x, p.nn, p.i, Int.tmod ((Int.tmod p.x (4 : Int)) + (4 : Int)) (4 : Int), (p.f.fly.length : Int)⟩ : A_rest4) rfl (by (try dsimp only [pre_rest4]) ; exact ⟨hinv, by omega, by omega, by omega, by omega, by omega⟩) fun r4 hi15 => ?_
  dsimp only [po_rest4] at hi15
  exact fin_step4 hK ⟨r4.f⟩ (by dsimp only [po_step4] <;> (refine ⟨?_, by omega, by omega⟩ ; first | (exfalso ; omega) | exact hi15.1))
  refine callPR (⟨p.f, p.k, p.x, p.nn, p.i, Int.tmod ((Int.tmod p.x (4 : Int)) + (4 : Int)) (4 : Int), (p.f.fly.length : Int)⟩ : A_rest4) rfl (by (try dsimp only [pre_rest4]) ; exact ⟨hinv, by omega, by omega, by omega, by omega, by omega⟩) fun r5 hi16 => ?_
  dsimp only [po_rest4] at hi16
  exact fin_step4 hK ⟨r5.f⟩ (by dsimp only [po_step4] <;> (refine ⟨?_, by omega, by omega⟩ ; first | (exfalso ; omega) | exact hi16.1))
  refine ifP (fun hc17 => ?_) (fun hc17 => ?_)
  refine ifP (fun hc18 => ?_) (fun hc18 => ?_)
  refine ifP (fun hc19 => ?_) (fun hc19 => ?_)
  refine ifP (fun hc20 => ?_) (fun hc20 => ?_)
  refine mustP (rfl) ?_
  refine mustP (rfl) ?_
  refine mustP (rfl) ?_
  refine exB_mk [⟨(0 : Int), (p.f.s0.l.length : Int), Int.tmod ((Int.tmod p.x (4 : Int)) + (4 : Int)) (4 : Int), (.slice none 0 0), []⟩] ?_
  refine mustP (show rowsR ([⟨(0 : Int), (p.f.s0.l.length : Int), Int.tmod ((Int.tmod p.x (4 : Int)) + (4 : Int)) (4 : Int), (.slice none 0 0), []⟩].map encT) [[.int 0 (.ofNat 0), .sint 0 (p.f.s0.l.length : Int), .sint 0 (Int.tmod ((Int.tmod p.x (4 : Int)) + (4 : Int)) (4 : Int)), .nilS]] from ⟨⟨.inr (.inl ⟨_, _, rfl, rfl⟩), ⟨.inl rfl, ⟨.inl rfl, ⟨.inr (.inr ⟨_, _, _, by decide, rfl, rfl⟩), trivial⟩⟩⟩⟩, trivial⟩) ?_
  refine mustP (by simp [limP] ; omega) ?_
  exact fin_step4 hK ⟨({ p.f with fly := p.f.fly ++ [⟨(0 : Int), (p.f.s0.l.length : Int), Int.tmod ((Int.tmod p.x (4 : Int)) + (4 : Int)) (4 : Int), (.slice none 0 0), []⟩] } : F4)⟩ (by dsimp only [po_step4] <;> (refine ⟨?_, by omega, by omega⟩ ; first | (exfalso ; omega) | exact ⟨tr_len (j := 0) hinv (by omega) rfl (by omega) rfl, Frz.refl _⟩ | exact ⟨tr_len (j := 1) hinv (by omega) rfl (by omega) rfl, Frz.refl _⟩ | exact ⟨tr_len (j := 2) hinv (by omega) rfl (by omega) rfl, Frz.refl _⟩ | exact ⟨tr_len (j := 3) hinv (by omega) rfl (by omega) rfl, Frz.refl _⟩))
  refine ifP (fun hc21 => ?_) (fun hc21 => ?_)
  refine mustP (rfl) ?_
  refine mustP (rfl) ?_
  refine mustP (rfl) ?_
  refine exB_mk [⟨(0 : Int), (p.f.s1.l.length : Int), Int.tmod ((Int.tmod p.x (4 : Int)) + (4 : Int)) (4 : Int), (.slice none 0 0), []⟩] ?_
  refine mustP (show rowsR ([⟨(0 : Int), (p.f.s1.l.length : Int), Int.tmod ((Int.tmod p.x (4 : Int)) + (4 : Int)) (4 : Int), (.slice none 0 0), []⟩].map encT) [[.int 0 (.ofNat 0), .sint 0 (p.f.s1.l.length : Int), .sint 0 (Int.tmod ((Int.tmod p.x (4 : Int)) + (4 : Int)) (4 : Int)), .nilS]] from ⟨⟨.inr (.inl ⟨_, _, rfl, rfl⟩), ⟨.inl rfl, ⟨.inl rfl, ⟨.inr (.inr ⟨_, _, _, by decide, rfl, rfl⟩), trivial⟩⟩⟩⟩, trivial⟩) ?_
  refine mustP (by simp [limP] ; omega) ?_
  exact fin_step4 hK ⟨({ p.f with fly := p.f.fly ++ [⟨(0 : Int), (p.f.s1.l.length : Int), Int.tmod ((Int.tmod p.x (4 : Int)) + (4 : Int)) (4 : Int), (.slice none 0 0), []⟩] } : F4)⟩ (by dsimp only [po_step4] <;> (refine ⟨?_, by omega, by omega⟩ ; first | (exfalso ; omega) | exact ⟨tr_len (j := 0) hinv (by omega) rfl (by omega) rfl, Frz.refl _⟩ | exact ⟨tr_len (j := 1) hinv (by omega) rfl (by omega) rfl, Frz.refl _⟩ | exact ⟨tr_len (j := 2) hinv (by omega) rfl (by omega) rfl, Frz.refl _⟩ | exact ⟨tr_len (j := 3) hinv (by omega) rfl (by omega) rfl, Frz.refl _⟩))
  refine ifP (fun hc22 => ?_) (fun hc22 => ?_)
  refine mustP (rfl) ?_
  refine mustP (rfl) ?_
  refine mustP (rfl) ?_
  refine exB_mk [⟨(0 : Int), (p.f.s2.l.length : Int), Int.tmod ((Int.tmod p.x (4 : Int)) + (4 : Int)) (4 : Int), (.slice none 0 0), []⟩] ?_
  refine mustP (show rowsR ([⟨(0 : Int), (p.f.s2.l.length : Int), Int.tmod ((Int.tmod p.x (4 : Int)) + (4 : Int)) (4 : Int), (.slice none 0 0), []⟩].map encT) [[.int 0 (.ofNat 0), .sint 0 (p.f.s2.l.length : Int), .sint 0 (Int.tmod ((Int.tmod p.x (4 : Int)) + (4 : Int)) (4 : Int)), .nilS]] from ⟨⟨.inr (.inl ⟨_, _, rfl, rfl⟩), ⟨.inl rfl, ⟨.inl rfl, ⟨.inr (.inr ⟨_, _, _, by decide, rfl, rfl⟩), trivial⟩⟩⟩⟩, trivial⟩) ?_
  refine mustP (by simp [limP] ; omega) ?_
  exact fin_step4 hK ⟨({ p.f with fly := p.f.fly ++ [⟨(0 : Int), (p.f.s2.l.length : Int), Int.tmod ((Int.tmod p.x (4 : Int)) + (4 : Int)) (4 : Int), (.slice none 0 0), []⟩] } : F4)⟩ (by dsimp only [po_step4] <;> (refine ⟨?_, by omega, by omega⟩ ; first | (exfalso ; omega) | exact ⟨tr_len (j := 0) hinv (by omega) rfl (by omega) rfl, Frz.refl _⟩ | exact ⟨tr_len (j := 1) hinv (by omega) rfl (by omega) rfl, Frz.refl _⟩ | exact ⟨tr_len (j := 2) hinv (by omega) rfl (by omega) rfl, Frz.refl _⟩ | exact ⟨tr_len (j := 3) hinv (by omega) rfl (by omega) rfl, Frz.refl _⟩))
  refine ifP (fun hc23 => ?_) (fun hc23 => ?_)
  refine mustP (rfl) ?_
  refine mustP (rfl) ?_
  refine mustP (rfl) ?_
  refine exB_mk [⟨(0 : Int), (p.f.s3.l.length : Int), Int.tmod ((Int.tmod p.x (4 : Int)) + (4 : Int)) (4 : Int), (.slice none 0 0), []⟩] ?_
  refine mustP (show rowsR ([⟨(0 : Int), (p.f.s3.l.length : Int), Int.tmod ((Int.tmod p.x (4 : Int)) + (4 : Int)) (4 : Int), (.slice none 0 0), []⟩].map encT) [[.int 0 (.ofNat 0), .sint 0 (p.f.s3.l.length : Int), .sint 0 (Int.tmod ((Int.tmod p.x (4 : Int)) + (4 : Int)) (4 : Int)), .nilS]] from ⟨⟨.inr (.inl ⟨_, _, rfl, rfl⟩), ⟨.inl rfl, ⟨.inl rfl, ⟨.inr (.inr ⟨_, _, _, by decide, rfl, rfl⟩), trivial⟩⟩⟩⟩, trivial⟩) ?_
  refine mustP (by simp [limP] ; omega) ?_
  exact fin_step4 hK ⟨({ p.f with fly := p.f.fly ++ [⟨(0 : Int), (p.f.s3.l.length : Int), Int.tmod ((Int.tmod p.x (4 : Int)) + (4 : Int)) (4 : Int), (.slice none 0 0), []⟩] } : F4)⟩ (by dsimp only [po_step4] <;> (refine ⟨?_, by omega, by omega⟩ ; first | (exfalso ; omega) | exact ⟨tr_len (j := 0) hinv (by omega) rfl (by omega) rfl, Frz.refl _⟩ | exact ⟨tr_len (j := 1) hinv (by omega) rfl (by omega) rfl, Frz.refl _⟩ | exact ⟨tr_len (j := 2) hinv (by omega) rfl (by omega) rfl, Frz.refl _⟩ | exact ⟨tr_len (j := 3) hinv (by omega) rfl (by omega) rfl, Frz.refl _⟩))
  refine mustP (by omega) ?_
  rfl
  refine callPR (⟨p.f, p.k, p.x, p.nn, p.i, Int.tmod ((Int.tmod p.x (4 : Int)) + (4 : Int)) (4 : Int), (p.f.fly.length : Int)⟩ : A_rest4) rfl (by (try dsimp only [pre_rest4]) ; exact ⟨hinv, by omega, by omega, by omega, by omega, by omega⟩) fun r6 hi24 => ?_
  dsimp only [po_rest4] at hi24
  exact fin_step4 hK ⟨r6.f⟩ (by dsimp only [po_step4] <;> (refine ⟨?_, by omega, by omega⟩ ; first | (exfalso ; omega) | exact hi24.1))
  refine callPR (⟨p.f, p.k, p.x, p.nn, p.i, Int.tmod ((Int.tmod p.x (4 : Int)) + (4 : Int)) (4 : Int), (p.f.fly.length : Int)⟩ : A_rest4) rfl (by (try dsimp only [pre_rest4]) ; exact ⟨hinv, by omega, by omega, by omega, by omega, by omega⟩) fun r7 hi25 => ?_
  dsimp only [po_rest4] at hi25
  exact fin_step4 hK ⟨r7.f⟩ (by dsimp only [po_step4] <;> (refine ⟨?_, by omega, by omega⟩ ; first | (exfalso ; omega) | exact hi25.1))
  refine callPR (⟨p.f, p.k, p.x, p.nn, p.i, Int.tmod ((Int.tmod p.x (4 : Int)) + (4 : Int)) (4 : Int), (p.f.fly.length : Int)⟩ : A_rest4) rfl (by (try dsimp only [pre_rest4]) ; exact ⟨hinv, by omega, by omega, by omega, by omega, by omega⟩) fun r8 hi26 => ?_
  dsimp only [po_rest4] at hi26
  exact fin_step4 hK ⟨r8.f⟩ (by dsimp only [po_step4] <;> (refine ⟨?_, by omega, by omega⟩ ; first | (exfalso ; omega) | exact hi26.1))
  refine ifP (fun hc27 => ?_) (fun hc27 => ?_)
  refine ifP (fun hc28 => ?_) (fun hc28 => ?_)
  refine ifP (fun hc29 => ?_) (fun hc29 => ?_)
  refine ifP (fun hc30 => ?_) (fun hc30 => ?_)
  refine mustP (rfl) ?_
  refine mustP (rfl) ?_
  refine mustP (rfl) ?_
  refine exB_mk [⟨(0 : Int), (p.f.s0.l.length : Int), Int.tmod ((Int.tmod p.x (4 : Int)) + (4 : Int)) (4 : Int), (.slice none 0 0), []⟩] ?_
  refine mustP (show rowsR ([⟨(0 : Int), (p.f.s0.l.length : Int), Int.tmod ((Int.tmod p.x (4 : Int)) + (4 : Int)) (4 : Int), (.slice none 0 0), []⟩].map encT) [[.int 0 (.ofNat 0), .sint 0 (p.f.s0.l.length : Int), .sint 0 (Int.tmod ((Int.tmod p.x (4 : Int)) + (4 : Int)) (4 : Int)), .nilS]] from ⟨⟨.inr (.inl ⟨_, _, rfl, rfl⟩), ⟨.inl rfl, ⟨.inl rfl, ⟨.inr (.inr ⟨_, _, _, by decide, rfl, rfl⟩), trivial⟩⟩⟩⟩, trivial⟩) ?_
  refine mustP (by simp [limP] ; omega) ?_
  exact fin_step4 hK ⟨({ p.f with fly := p.f.fly ++ [⟨(0 : Int), (p.f.s0.l.length : Int), Int.tmod ((Int.tmod p.x (4 : Int)) + (4 : Int)) (4 : Int), (.slice none 0 0), []⟩] } : F4)⟩ (by dsimp only [po_step4] <;> (refine ⟨?_, by omega, by omega⟩ ; first | (exfalso ; omega) | exact ⟨tr_len (j := 0) hinv (by omega) rfl (by omega) rfl, Frz.refl _⟩ | exact ⟨tr_len (j := 1) hinv (by omega) rfl (by omega) rfl, Frz.refl _⟩ | exact ⟨tr_len (j := 2) hinv (by omega) rfl (by omega) rfl, Frz.refl _⟩ | exact ⟨tr_len (j := 3) hinv (by omega) rfl (by omega) rfl, Frz.refl _⟩))
  refine ifP (fun hc31 => ?_) (fun hc31 => ?_)
  refine mustP (rfl) ?_
  refine mustP (rfl) ?_
  refine mustP (rfl) ?_
  refine exB_mk [⟨(0 : Int), (p.f.s1.l.length : Int), Int.tmod ((Int.tmod p.x (4 : Int)) + (4 : Int)) (4 : Int), (.slice none 0 0), []⟩] ?_
  refine mustP (show rowsR ([⟨(0 : Int), (p.f.s1.l.length : Int), Int.tmod ((Int.tmod p.x (4 : Int)) + (4 : Int)) (4 : Int), (.slice none 0 0), []⟩].map encT) [[.int 0 (.ofNat 0), .sint 0 (p.f.s1.l.length : Int), .sint 0 (Int.tmod ((Int.tmod p.x (4 : Int)) + (4 : Int)) (4 : Int)), .nilS]] from ⟨⟨.inr (.inl ⟨_, _, rfl, rfl⟩), ⟨.inl rfl, ⟨.inl rfl, ⟨.inr (.inr ⟨_, _, _, by decide, rfl, rfl⟩), trivial⟩⟩⟩⟩, trivial⟩) ?_
  refine mustP (by simp [limP] ; omega) ?_
  exact fin_step4 hK ⟨({ p.f with fly := p.f.fly ++ [⟨(0 : Int), (p.f.s1.l.length : Int), Int.tmod ((Int.tmod p.x (4 : Int)) + (4 : Int)) (4 : Int), (.slice none 0 0), []⟩] } : F4)⟩ (by dsimp only [po_step4] <;> (refine ⟨?_, by omega, by omega⟩ ; first | (exfalso ; omega) | exact ⟨tr_len (j := 0) hinv (by omega) rfl (by omega) rfl, Frz.refl _⟩ | exact ⟨tr_len (j := 1) hinv (by omega) rfl (by omega) rfl, Frz.refl _⟩ | exact ⟨tr_len (j := 2) hinv (by omega) rfl (by omega) rfl, Frz.refl _⟩ | exact ⟨tr_len (j := 3) hinv (by omega) rfl (by omega) rfl, Frz.refl _⟩))
  refine ifP (fun hc32 => ?_) (fun hc32 => ?_)
  refine mustP (rfl) ?_
  refine mustP (rfl) ?_
  refine mustP (rfl) ?_
  refine exB_mk [⟨(0 : Int), (p.f.s2.l.length : Int), Int.tmod ((Int.tmod p.x (4 : Int)) + (4 : Int)) (4 : Int), (.slice none 0 0), []⟩] ?_
  refine mustP (show rowsR ([⟨(0 : Int), (p.f.s2.l.length : Int), Int.tmod ((Int.tmod p.x (4 : Int)) + (4 : Int)) (4 : Int), (.slice none 0 0), []⟩].map encT) [[.int 0 (.ofNat 0), .sint 0 (p.f.s2.l.length : Int), .sint 0 (Int.tmod ((Int.tmod p.x (4 : Int)) + (4 : Int)) (4 : Int)), .nilS]] from ⟨⟨.inr (.inl ⟨_, _, rfl, rfl⟩), ⟨.inl rfl, ⟨.inl rfl, ⟨.inr (.inr ⟨_, _, _, by decide, rfl, rfl⟩), trivial⟩⟩⟩⟩, trivial⟩) ?_
  refine mustP (by simp [limP] ; omega) ?_
  exact fin_step4 hK ⟨({ p.f with fly := p.f.fly ++ [⟨(0 : Int), (p.f.s2.l.length : Int), Int.tmod ((Int.tmod p.x (4 : Int)) + (4 : Int)) (4 : Int), (.slice none 0 0), []⟩] } : F4)⟩ (by dsimp only [po_step4] <;> (refine ⟨?_, by omega, by omega⟩ ; first | (exfalso ; omega) | exact ⟨tr_len (j := 0) hinv (by omega) rfl (by omega) rfl, Frz.refl _⟩ | exact ⟨tr_len (j := 1) hinv (by omega) rfl (by omega) rfl, Frz.refl _⟩ | exact ⟨tr_len (j := 2) hinv (by omega) rfl (by omega) rfl, Frz.refl _⟩ | exact ⟨tr_len (j := 3) hinv (by omega) rfl (by omega) rfl, Frz.refl _⟩))
  refine ifP (fun hc33 => ?_) (fun hc33 => ?_)
  refine mustP (rfl) ?_
  refine mustP (rfl) ?_
  refine mustP (rfl) ?_
  refine exB_mk [⟨(0 : Int), (p.f.s3.l.length : Int), Int.tmod ((Int.tmod p.x (4 : Int)) + (4 : Int)) (4 : Int), (.slice none 0 0), []⟩] ?_
  refine mustP (show rowsR ([⟨(0 : Int), (p.f.s3.l.length : Int), Int.tmod ((Int.tmod p.x (4 : Int)) + (4 : Int)) (4 : Int), (.slice none 0 0), []⟩].map encT) [[.int 0 (.ofNat 0), .sint 0 (p.f.s3.l.length : Int), .sint 0 (Int.tmod ((Int.tmod p.x (4 : Int)) + (4 : Int)) (4 : Int)), .nilS]] from ⟨⟨.inr (.inl ⟨_, _, rfl, rfl⟩), ⟨.inl rfl, ⟨.inl rfl, ⟨.inr (.inr ⟨_, _, _, by decide, rfl, rfl⟩), trivial⟩⟩⟩⟩, trivial⟩) ?_
  refine mustP (by simp [limP] ; omega) ?_
  exact fin_step4 hK ⟨({ p.f with fly := p.f.fly ++ [⟨(0 : Int), (p.f.s3.l.length : Int), Int.tmod ((Int.tmod p.x (4 : Int)) + (4 : Int)) (4 : Int), (.slice none 0 0), []⟩] } : F4)⟩ (by dsimp only [po_step4] <;> (refine ⟨?_, by omega, by omega⟩ ; first | (exfalso ; omega) | exact ⟨tr_len (j := 0) hinv (by omega) rfl (by omega) rfl, Frz.refl _⟩ | exact ⟨tr_len (j := 1) hinv (by omega) rfl (by omega) rfl, Frz.refl _⟩ | exact ⟨tr_len (j := 2) hinv (by omega) rfl (by omega) rfl, Frz.refl _⟩ | exact ⟨tr_len (j := 3) hinv (by omega) rfl (by omega) rfl, Frz.refl _⟩))
  refine mustP (by omega) ?_
  rfl
  refine callPR (⟨p.f, p.k, p.x, p.nn, p.i, Int.tmod ((Int.tmod p.x (4 : Int)) + (4 : Int)) (4 : Int), (p.f.fly.length : Int)⟩ : A_rest4) rfl (by (try dsimp only [pre_rest4]) ; exact ⟨hinv, by omega, by omega, by omega, by omega, by omega⟩) fun r9 hi34 => ?_
  dsimp only [po_rest4] at hi34
  exact fin_step4 hK ⟨r9.f⟩ (by dsimp only [po_step4] <;> (refine ⟨?_, by omega, by omega⟩ ; first | (exfalso ; omega) | exact hi34.1))
  refine callPR (⟨p.f, p.k, p.x, p.nn, p.i, Int.tmod ((Int.tmod p.x (4 : Int)) + (4 : Int)) (4 : Int), (p.f.fly.length : Int)⟩ : A_rest4) rfl (by (try dsimp only [pre_rest4]) ; exact ⟨hinv, by omega, by omega, by omega, by omega, by omega⟩) fun r10 hi35 => ?_
  dsimp only [po_rest4] at hi35
  exact fin_step4 hK ⟨r10.f⟩ (by dsimp only [po_step4] <;> (refine ⟨?_, by omega, by omega⟩ ; first | (exfalso ; omega) | exact hi35.1))
  refine callPR (⟨p.f, p.k, p.x, p.nn, p.i, Int.tmod ((Int.tmod p.x (4 : Int)) + (4 : Int)) (4 : Int), (p.f.fly.length : Int)⟩ : A_rest4) rfl (by (try dsimp only [pre_rest4]) ; exact ⟨hinv, by omega, by omega, by omega, by omega, by omega⟩) fun r11 hi36 => ?_
  dsimp only [po_rest4] at hi36
  exact fin_step4 hK ⟨r11.f⟩ (by dsimp only [po_step4] <;> (refine ⟨?_, by omega, by omega⟩ ; first | (exfalso ; omega) | exact hi36.1))
noncomputable def ec_step4 : SpecE := tstE (elB 1 4) (esOf I_step4 (spP pre_step4 out_step4)) ec_step3
theorem nc_step4 : NatE Try.prog 28 1 ec_step4 := tstE_ok (natE_said (f := 28) (k := 1) (lp := lp_step4) (lf := 600) tb_mix (cfT_ok nat_come4_ok) ft_step4_ok (by rfl) (fun b j x h => (mem_step lo_rest4 (fun h => (by cases h)) h)) fun p K h => vf_step4 p K (mustP_ok h).1 (mustP_ok h).2) nc_step3
noncomputable def nat_step4 := natC nat_come4 1 ec_step4 28 [(0, 4), (1, 15)]
theorem nat_step4_ok : NatsOk Try.prog nat_step4 := natC_ok nc_step4 nat_come4_ok
end Go.Proofs.Try
