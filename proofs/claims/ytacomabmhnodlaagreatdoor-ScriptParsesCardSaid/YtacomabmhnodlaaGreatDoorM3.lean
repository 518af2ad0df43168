/- Definitions and lemmas of the proof, without a condition of their own. -/
import Derived.Test.YtacomabmhnodlaaGreatDoorM2
import Derived.Test.YtacomabmhnodlaaGreatDoorProg
import Derived.KernelRfl
open List renaming eq_nil_of_length_eq_zero→aaX,mem_of_getElem?→aaG
open Option.some renaming inj→aaZ
open UInt8 renaming ofNat→aaY
namespace Go.Proofs.Tryz
open Go Go.RowKit Go.Eng Go.Sy
set_option maxRecDepth 100000
def p_ (i d:Nat) (x:XO):XSt:=.p i (some d) none x
def au (i d t:Nat) (b:Bool) (x:XO):XSt:=.p i (some d) (some (t,b)) x
def r_ (i d:Nat) (x:XO):XSt:=.r i (some d) none x
def aY (i d t:Nat) (b:Bool) (x:XO):XSt:=.r i (some d) (some (t,b)) x
def e_ (i d:Nat) (x:XO):XSt:=.e i (some d) none x
def bd (i:Nat) (x:XO):XSt:=.e i none none x
def c_ (i d f:Nat) (xs:List XP):XSt:=.c i (some d) none f xs
def il (i d t:Nat) (b:Bool) (f:Nat) (xs:List XP):XSt:=.c i (some d) (some (t,b)) f xs
def a_ (i d:Nat) (x:XO):XSt:=.a i d none x
def YM (i d t:Nat) (b:Bool) (x:XO):XSt:=.a i d (some (t,b)) x
def m_ (n:Nat):XO:=.mv (.t n)
def n_ (n:Nat):XO:=.nck (.t n)
def f_ (k n:Nat):XO:=.fa k (.t n)
def l_ (n:Nat):XO:=.ld false 1 (.t n)
def k_ (n:Nat):XO:=.len 1 (.t n)
def i_ (n:Nat):XP:=.c (.int 0 (.ofNat n))
def o_ (n:Nat):AV:=.int 0 (.ofNat n)
def g_ (n:Nat) (l:List XSt):XC:=.reg false n (.leaf l)
def h_ (n:Nat) (l:List XSt):XC:=.reg true n (.leaf l)
def bh (f:Nat) (x:XF):Prop:=ci Tryz.prog f x=true∧plain (jW x)=true
def VX:XF:=.mk 28 (.cell 2 true 9) (.seq (g_ 2 [e_ 0 1 (.box 37 (.t 0)),e_ 1 2 (.al 29 [.nilS,(o_ 0),(o_ 0),(o_ 0),(o_ 0),(o_ 0),(o_ 0),(.int 4 (.ofNat 0)),.nilS])]) (.seq (g_ 6 [p_ 0 5 (f_ 0 1),r_ 1 6 (.ld true 8 (.t 5)),c_ 2 7 29 [.t 6],p_ 3 8 (.bld [.nilS,(o_ 0),(o_ 0),(o_ 0),(o_ 0),(o_ 0),(o_ 0),(.int 4 (.ofNat 0)),.nilS] [(0,8)] [.t 7]),e_ 4 3 (.al 29 [.nilS,(o_ 0),(o_ 0),(o_ 0),(o_ 0),(o_ 0),(o_ 0),(.int 4 (.ofNat 0)),.nilS]),bd 5 (.st 9 (.t 3) (.t 8))]) (.seq (.seq (g_ 1 [p_ 0 4 (.mv (i_ 0))]) (.block 2 (.loop [1,2,3,4,9,10,11,12,13,14,15,16,17,18,19,20,21,22,23,24,25,26,27] (.seq (.seq (g_ 5 [p_ 0 9 (m_ 4),p_ 1 10 (f_ 8 1),r_ 2 11 (l_ 10),p_ 3 12 (k_ 11),p_ 4 13 (.bin 3 0 (.t 9) (.t 12))]) (.cond (.t 13) .skip (.exit 2))) (.seq (.block 3 (h_ 12 [p_ 0 16 (f_ 8 3),r_ 1 17 (l_ 16),p_ 2 18 (f_ 8 1),r_ 3 19 (l_ 18),p_ 4 20 (m_ 4),p_ 5 21 (.ixs 9 (.t 19) (.t 20)),r_ 6 22 (.ld true 9 (.t 21)),c_ 7 23 30 [.t 22],a_ 1 17 (l_ 16),e_ 8 24 (.bsl 54 9 1 [(o_ 0),(o_ 0),(o_ 0),(o_ 0),(o_ 0),(o_ 0),(.int 3 (.ofNat 0)),(.int 1 (.ofNat 0)),.nilS] [(0,9)] [.t 23]),a_ 1 17 (l_ 16),e_ 9 25 (.app 54 9 80 (.t 17) (.t 24)),p_ 10 26 (f_ 8 3),bd 11 (.st 1 (.t 26) (.t 25))])) (g_ 3 [p_ 0 14 (m_ 4),p_ 1 15 (.bin 0 0 (.t 14) (i_ 1)),p_ 2 4 (m_ 15)])))))) (.seq (g_ 2 [r_ 0 27 (.ld true 9 (.t 3)),bd 1 (.st 9 (.t 2) (.t 27))]) .ret))))
theorem VW:bh 10 VX:=⟨by kernel_rfl,by kernel_rfl⟩
def VV:XF:=.mk 28 (.two 2 3) (.seq (g_ 3 [e_ 0 1 (.box 29 (.t 0)),p_ 1 2 (.mv (.c (.str []))),p_ 2 3 (.mv (i_ 0))]) (.seq (.seq (g_ 3 [r_ 0 7 (.ld true 9 (.t 1)),c_ 1 8 13 [.t 7],p_ 2 9 (.un 0 (.t 8))]) (.cond (.t 9) (.seq (g_ 2 [p_ 0 2 (.mv (.c (.str []))),p_ 1 3 (.mv (i_ 1))]) .ret) .skip)) (.seq (g_ 1 [e_ 0 4 (.al 91 [.nilP,.nilS])]) (.seq (g_ 4 [p_ 0 10 (f_ 0 1),r_ 1 11 (.ld true 8 (.t 10)),c_ 2 12 32 [.t 11],c_ 3 13 31 [(.t 4),(.t 12)]]) (.seq (.seq (g_ 4 [p_ 0 14 (f_ 8 1),r_ 1 15 (l_ 14),p_ 2 16 (k_ 15),p_ 3 17 (.mv (i_ 0))]) (.block 2 (.loop [2,3,4,6,15,16,17,18,19,20,21,22,24,25,26,27] (.seq (g_ 1 [p_ 0 18 (.bin 3 0 (.t 17) (.t 16))]) (.seq (.cond (.t 18) .skip (.exit 2)) (.seq (.block 3 (.seq (g_ 4 [p_ 0 19 (.ixs 9 (.t 15) (.t 17)),r_ 1 20 (.ld true 9 (.t 19)),e_ 2 6 (.al 54 [(o_ 0),(o_ 0),(o_ 0),(o_ 0),(o_ 0),(o_ 0),(.int 3 (.ofNat 0)),(.int 1 (.ofNat 0)),.nilS]),bd 3 (.st 9 (.t 6) (.t 20))]) (.seq (g_ 3 [r_ 0 21 (.ld true 9 (.t 6)),c_ 1 22 33 [.t 21],c_ 2 23 31 [(.t 4),(.t 22)]]) (.seq (g_ 2 [c_ 0 24 34 [.t 4],p_ 1 25 (.bin 3 2 (.t 24) (i_ 65536))]) (.cond (.t 25) (.seq (g_ 2 [p_ 0 2 (.mv (.c (.str []))),p_ 1 3 (.mv (i_ 5))]) .ret) .skip))))) (g_ 2 [p_ 0 26 (.bin 0 0 (.t 17) (i_ 1)),p_ 1 17 (m_ 26)]))))))) (.seq (g_ 3 [c_ 0 27 35 [.t 4],p_ 1 2 (m_ 27),p_ 2 3 (.mv (i_ 0))]) .ret))))))
theorem VU:bh 11 VV:=⟨by kernel_rfl,by kernel_rfl⟩
def VT:XF:=.mk 4 (.one 2) (.seq (g_ 1 [p_ 0 2 (.mv (i_ 0))]) (.seq (g_ 2 [p_ 0 3 (m_ 0),p_ 1 2 (m_ 3)]) .ret))
theorem VS:bh 12 VT:=⟨by kernel_rfl,by kernel_rfl⟩
def VR:XF:=.mk 55 (.one 2) (.seq (g_ 2 [e_ 0 1 (.box 29 (.t 0)),p_ 1 2 (.mv (.c (.bool false)))]) (.seq (.seq (g_ 5 [p_ 0 8 (f_ 0 1),p_ 1 9 (f_ 0 8),r_ 2 10 (l_ 9),p_ 3 11 (k_ 10),p_ 4 3 (m_ 11)]) (.seq (g_ 6 [p_ 0 12 (m_ 3),p_ 1 13 (.bin 3 4 (.t 12) (i_ 0)),p_ 2 14 (m_ 13),au 3 15 14 false (m_ 3),au 4 16 14 false (.bin 3 2 (.t 15) (i_ 4)),p_ 5 17 (.pick (.t 14) (.c (.bool true)) (.t 16))]) (.cond (.t 17) (.seq (g_ 1 [p_ 0 2 (.mv (.c (.bool false)))]) .ret) .skip))) (.seq (.seq (g_ 5 [p_ 0 18 (f_ 0 1),p_ 1 19 (f_ 0 18),r_ 2 20 (l_ 19),p_ 3 21 (k_ 20),p_ 4 22 (.mv (i_ 0))]) (.block 2 (.loop [1,2,5,7,20,21,22,23,24,25,26,27,28,29,30,31,32,33,34,35,36,37,38,39,40,41,42,43,44,45,46,47,48,49,50,51,52,53,54] (.seq (g_ 1 [p_ 0 23 (.bin 3 0 (.t 22) (.t 21))]) (.seq (.cond (.t 23) .skip (.exit 2)) (.seq (.block 3 (.seq (g_ 4 [p_ 0 24 (.ixs 3 (.t 20) (.t 22)),r_ 1 25 (.ld true 3 (.t 24)),e_ 2 5 (.al 82 [(o_ 0),(o_ 0),(.bool false)]),bd 3 (.st 3 (.t 5) (.t 25))]) (.seq (g_ 10 [p_ 0 26 (f_ 0 5),r_ 1 27 (l_ 26),c_ 2 28 36 [.t 27],p_ 3 29 (.un 0 (.t 28)),p_ 4 30 (m_ 29),au 5 31 30 false (f_ 1 5),aY 6 32 30 false (l_ 31),il 7 33 30 false 36 [.t 32],au 8 34 30 false (.un 0 (.t 33)),p_ 9 35 (.pick (.t 30) (.c (.bool true)) (.t 34))]) (.cond (.t 35) (.seq (g_ 1 [p_ 0 2 (.mv (.c (.bool false)))]) .ret) .skip)))) (g_ 2 [p_ 0 36 (.bin 0 0 (.t 22) (i_ 1)),p_ 1 22 (m_ 36)]))))))) (.seq (.seq (g_ 4 [p_ 0 37 (f_ 0 1),c_ 1 38 37 [.t 37],p_ 2 39 (k_ 38),p_ 3 40 (.mv (i_ 0))]) (.block 4 (.loop [1,2,7,38,39,40,41,42,43,44,45,46,47,48,49,50,51,52,53,54] (.seq (g_ 1 [p_ 0 41 (.bin 3 0 (.t 40) (.t 39))]) (.seq (.cond (.t 41) .skip (.exit 4)) (.seq (.block 5 (.seq (g_ 4 [p_ 0 42 (.ixs 2 (.t 38) (.t 40)),r_ 1 43 (.ld true 2 (.t 42)),e_ 2 7 (.al 106 [(.str []),.nilP]),bd 3 (.st 2 (.t 7) (.t 43))]) (.seq (g_ 6 [p_ 0 44 (f_ 1 7),r_ 1 45 (l_ 44),p_ 2 46 (n_ 45),r_ 3 47 (l_ 46),c_ 4 48 36 [.t 47],p_ 5 49 (.un 0 (.t 48))]) (.cond (.t 49) (.seq (g_ 1 [p_ 0 2 (.mv (.c (.bool false)))]) .ret) .skip)))) (g_ 2 [p_ 0 50 (.bin 0 0 (.t 40) (i_ 1)),p_ 1 40 (m_ 50)]))))))) (.seq (g_ 5 [p_ 0 51 (f_ 8 1),r_ 1 52 (l_ 51),c_ 2 53 38 [(.t 52),(.f 39)],p_ 3 54 (.un 0 (.t 53)),p_ 4 2 (m_ 54)]) .ret)))))
theorem VQ:bh 13 VR:=⟨by kernel_rfl,by kernel_rfl⟩
def VP:XF:=.mk 7 (.cell 2 true 8) (.seq (g_ 1 [e_ 0 2 (.al 34 [.nilS,(o_ 0),(o_ 0),(o_ 0),(o_ 0),(o_ 0),(o_ 0),(.int 4 (.ofNat 0))])]) (.seq (g_ 5 [p_ 0 3 (m_ 0),p_ 1 4 (.bld [(o_ 0),(o_ 0),(.bool false)] [(0,1)] [.t 3]),e_ 2 5 (.bsl 69 3 1 [(o_ 0),(o_ 0),(.bool false)] [(0,3)] [.t 4]),p_ 3 6 (.bld [.nilS,(o_ 0),(o_ 0),(o_ 0),(o_ 0),(o_ 0),(o_ 0),(.int 4 (.ofNat 0))] [(0,1),(1,1),(2,1),(3,1),(4,1),(5,1),(6,1),(7,1)] [(.t 5),(i_ 1),(i_ 4),(i_ 200),(i_ 1),(i_ 5),(i_ 500),(.c (.int 4 (.ofNat 1)))]),bd 4 (.st 8 (.t 2) (.t 6))]) .ret))
theorem VO:bh 15 VP:=⟨by kernel_rfl,by kernel_rfl⟩
def VN:XF:=.mk 2 (.one 0) (.seq (g_ 1 [p_ 0 0 (.mv (.c .nilS))]) (.seq (g_ 2 [e_ 0 1 (.bsl 9 1 7 [(.str []),(.str []),(.str []),(.str []),(.str []),(.str []),(.str [])] [(0,1),(1,1),(2,1),(3,1),(4,1),(5,1),(6,1)] [(.c (.str [99,108,105,101,110,116,115])),(.c (.str [119,105,110,100,111,119])),(.c (.str [100,101,97,100,108,105,110,101])),(.c (.str [112,97,99,101])),(.c (.str [97,103,97,105,110])),(.c (.str [98,97,103])),(.c (.str [102,105,114,115,116]))]),p_ 1 0 (m_ 1)]) .ret))
theorem VM:bh 22 VN:=⟨by kernel_rfl,by kernel_rfl⟩
def VL:XF:=.mk 43 (.cell 6 true 8) (.seq (g_ 2 [e_ 0 3 (.box 34 (.t 0)),e_ 1 6 (.al 34 [.nilS,(o_ 0),(o_ 0),(o_ 0),(o_ 0),(o_ 0),(o_ 0),(.int 4 (.ofNat 0))])]) (.seq (.seq (g_ 1 [p_ 0 7 (m_ 1)]) (.block 2 (.seq (g_ 2 [p_ 0 9 (.bin 3 4 (.t 7) (i_ 0)),p_ 1 8 (m_ 9)]) (.cond (.t 8) (g_ 4 [p_ 0 10 (m_ 2),p_ 1 11 (.cnv 0 (.t 10)),p_ 2 12 (f_ 1 3),bd 3 (.st 1 (.t 12) (.t 11))]) (.seq (g_ 2 [p_ 0 14 (.bin 3 4 (.t 7) (i_ 1)),p_ 1 13 (m_ 14)]) (.cond (.t 13) (g_ 4 [p_ 0 15 (m_ 2),p_ 1 16 (.cnv 0 (.t 15)),p_ 2 17 (f_ 2 3),bd 3 (.st 1 (.t 17) (.t 16))]) (.seq (g_ 2 [p_ 0 19 (.bin 3 4 (.t 7) (i_ 2)),p_ 1 18 (m_ 19)]) (.cond (.t 18) (g_ 4 [p_ 0 20 (m_ 2),p_ 1 21 (.cnv 0 (.t 20)),p_ 2 22 (f_ 3 3),bd 3 (.st 1 (.t 22) (.t 21))]) (.seq (g_ 2 [p_ 0 24 (.bin 3 4 (.t 7) (i_ 3)),p_ 1 23 (m_ 24)]) (.cond (.t 23) (g_ 4 [p_ 0 25 (m_ 2),p_ 1 26 (.cnv 0 (.t 25)),p_ 2 27 (f_ 4 3),bd 3 (.st 1 (.t 27) (.t 26))]) (.seq (g_ 2 [p_ 0 29 (.bin 3 4 (.t 7) (i_ 4)),p_ 1 28 (m_ 29)]) (.cond (.t 28) (g_ 4 [p_ 0 30 (m_ 2),p_ 1 31 (.cnv 0 (.t 30)),p_ 2 32 (f_ 5 3),bd 3 (.st 1 (.t 32) (.t 31))]) (.seq (g_ 2 [p_ 0 34 (.bin 3 4 (.t 7) (i_ 5)),p_ 1 33 (m_ 34)]) (.cond (.t 33) (g_ 4 [p_ 0 35 (m_ 2),p_ 1 36 (.cnv 0 (.t 35)),p_ 2 37 (f_ 6 3),bd 3 (.st 1 (.t 37) (.t 36))]) (.seq (g_ 2 [p_ 0 39 (.bin 3 4 (.t 7) (i_ 6)),p_ 1 38 (m_ 39)]) (.cond (.t 38) (g_ 3 [p_ 0 40 (m_ 2),p_ 1 41 (f_ 7 3),bd 2 (.st 1 (.t 41) (.t 40))]) .skip)))))))))))))))) (.seq (g_ 2 [r_ 0 42 (.ld true 8 (.t 3)),bd 1 (.st 8 (.t 6) (.t 42))]) .ret)))
theorem VK:bh 24 VL:=⟨by kernel_rfl,by kernel_rfl⟩
def VJ:XF:=.mk 66 (.one 4) (.seq (g_ 3 [e_ 0 2 (.box 79 (.t 0)),e_ 1 3 (.box 79 (.t 1)),p_ 2 4 (.mv (.c (.bool false)))]) (.seq (g_ 62 [p_ 0 5 (f_ 0 2),r_ 1 6 (l_ 5),p_ 2 7 (f_ 0 3),r_ 3 8 (l_ 7),p_ 4 9 (.bin 3 4 (.t 6) (.t 8)),p_ 5 10 (m_ 9),au 6 11 10 true (f_ 1 2),aY 7 12 10 true (l_ 11),au 8 13 10 true (f_ 1 3),aY 9 14 10 true (l_ 13),au 10 15 10 true (.bin 3 4 (.t 12) (.t 14)),p_ 11 16 (.pick (.t 10) (.t 15) (.c (.bool false))),p_ 12 17 (m_ 16),au 13 18 17 true (f_ 2 2),aY 14 19 17 true (l_ 18),au 15 20 17 true (f_ 2 3),aY 16 21 17 true (l_ 20),au 17 22 17 true (.bin 3 4 (.t 19) (.t 21)),p_ 18 23 (.pick (.t 17) (.t 22) (.c (.bool false))),p_ 19 24 (m_ 23),au 20 25 24 true (f_ 3 2),aY 21 26 24 true (l_ 25),au 22 27 24 true (f_ 3 3),aY 23 28 24 true (l_ 27),au 24 29 24 true (.bin 3 4 (.t 26) (.t 28)),p_ 25 30 (.pick (.t 24) (.t 29) (.c (.bool false))),p_ 26 31 (m_ 30),au 27 32 31 true (f_ 4 2),aY 28 33 31 true (l_ 32),au 29 34 31 true (f_ 4 3),aY 30 35 31 true (l_ 34),au 31 36 31 true (.bin 3 4 (.t 33) (.t 35)),p_ 32 37 (.pick (.t 31) (.t 36) (.c (.bool false))),p_ 33 38 (m_ 37),au 34 39 38 true (f_ 5 2),aY 35 40 38 true (l_ 39),au 36 41 38 true (f_ 5 3),aY 37 42 38 true (l_ 41),au 38 43 38 true (.bin 3 4 (.t 40) (.t 42)),p_ 39 44 (.pick (.t 38) (.t 43) (.c (.bool false))),p_ 40 45 (m_ 44),au 41 46 45 true (f_ 6 2),aY 42 47 45 true (l_ 46),au 43 48 45 true (f_ 6 3),aY 44 49 45 true (l_ 48),au 45 50 45 true (.bin 3 4 (.t 47) (.t 49)),p_ 46 51 (.pick (.t 45) (.t 50) (.c (.bool false))),p_ 47 52 (m_ 51),au 48 53 52 true (f_ 7 2),aY 49 54 52 true (l_ 53),au 50 55 52 true (f_ 7 3),aY 51 56 52 true (l_ 55),au 52 57 52 true (.bin 3 4 (.t 54) (.t 56)),p_ 53 58 (.pick (.t 52) (.t 57) (.c (.bool false))),p_ 54 59 (m_ 58),au 55 60 59 true (f_ 8 2),aY 56 61 59 true (l_ 60),au 57 62 59 true (f_ 8 3),aY 58 63 59 true (l_ 62),il 59 64 59 true 55 [(.t 61),(.t 63)],p_ 60 65 (.pick (.t 59) (.t 64) (.c (.bool false))),p_ 61 4 (m_ 65)]) .ret))
theorem VI:bh 26 VJ:=⟨by kernel_rfl,by kernel_rfl⟩
def VH:XF:=.mk 46 (.cell 2 true 8) (.seq (g_ 2 [e_ 0 1 (.box 34 (.t 0)),e_ 1 2 (.al 26 [.nilS,(o_ 0),(o_ 0),(o_ 0),(o_ 0),(o_ 0),(o_ 0),(.int 4 (.ofNat 0))])]) (.seq (g_ 17 [p_ 0 6 (f_ 1 1),r_ 1 7 (l_ 6),p_ 2 8 (f_ 2 1),r_ 3 9 (l_ 8),p_ 4 10 (f_ 3 1),r_ 5 11 (l_ 10),p_ 6 12 (f_ 4 1),r_ 7 13 (l_ 12),p_ 8 14 (f_ 5 1),r_ 9 15 (l_ 14),p_ 10 16 (f_ 6 1),r_ 11 17 (l_ 16),p_ 12 18 (f_ 7 1),r_ 13 19 (l_ 18),p_ 14 20 (.bld [.nilS,(o_ 0),(o_ 0),(o_ 0),(o_ 0),(o_ 0),(o_ 0),(.int 4 (.ofNat 0))] [(1,1),(2,1),(3,1),(4,1),(5,1),(6,1),(7,1)] [(.t 7),(.t 9),(.t 11),(.t 13),(.t 15),(.t 17),(.t 19)]),e_ 15 3 (.al 26 [.nilS,(o_ 0),(o_ 0),(o_ 0),(o_ 0),(o_ 0),(o_ 0),(.int 4 (.ofNat 0))]),bd 16 (.st 8 (.t 3) (.t 20))]) (.seq (.seq (g_ 1 [p_ 0 4 (.mv (i_ 0))]) (.block 2 (.loop [1,2,3,4,5,21,22,23,24,25,26,27,28,29,30,31,32,33,34,35,36,37,38,39,40,41,42,43,44,45] (.seq (.seq (g_ 5 [p_ 0 21 (m_ 4),p_ 1 22 (f_ 0 1),r_ 2 23 (l_ 22),p_ 3 24 (k_ 23),p_ 4 25 (.bin 3 0 (.t 21) (.t 24))]) (.cond (.t 25) .skip (.exit 2))) (.seq (.block 3 (.seq (g_ 7 [p_ 0 28 (f_ 0 1),r_ 1 29 (l_ 28),p_ 2 30 (m_ 4),p_ 3 31 (.ixs 3 (.t 29) (.t 30)),r_ 4 32 (.ld true 3 (.t 31)),e_ 5 5 (.al 69 [(o_ 0),(o_ 0),(.bool false)]),bd 6 (.st 3 (.t 5) (.t 32))]) (g_ 13 [p_ 0 33 (f_ 0 3),r_ 1 34 (l_ 33),p_ 2 35 (f_ 0 5),r_ 3 36 (l_ 35),p_ 4 37 (f_ 1 5),r_ 5 38 (l_ 37),p_ 6 39 (f_ 2 5),r_ 7 40 (l_ 39),p_ 8 41 (.bld [(o_ 0),(o_ 0),(.bool false)] [(0,1),(1,1),(2,1)] [(.t 36),(.t 38),(.t 40)]),e_ 9 42 (.bsl 82 3 1 [(o_ 0),(o_ 0),(.bool false)] [(0,3)] [.t 41]),e_ 10 43 (.app 82 3 24 (.t 34) (.t 42)),p_ 11 44 (f_ 0 3),bd 12 (.st 1 (.t 44) (.t 43))]))) (g_ 3 [p_ 0 26 (m_ 4),p_ 1 27 (.bin 0 0 (.t 26) (i_ 1)),p_ 2 4 (m_ 27)])))))) (.seq (g_ 2 [r_ 0 45 (.ld true 8 (.t 3)),bd 1 (.st 8 (.t 2) (.t 45))]) .ret))))
theorem VG:bh 29 VH:=⟨by kernel_rfl,by kernel_rfl⟩
def VF:XF:=.mk 58 (.one 2) (.seq (g_ 2 [e_ 0 1 (.box 26 (.t 0)),p_ 1 2 (.mv (.c (.str [])))]) (.seq (g_ 1 [e_ 0 3 (.al 91 [.nilP,.nilS])]) (.seq (.seq (g_ 4 [p_ 0 9 (f_ 0 1),r_ 1 10 (l_ 9),p_ 2 11 (k_ 10),p_ 3 12 (.mv (i_ 0))]) (.block 2 (.loop [1,2,3,5,6,8,10,11,12,13,14,15,16,17,18,19,20,21,22,23,24,25,26,27,28,29,30,32,33,34,35,36,37,38,39,40,41,42,43,44,45,46,47,48,50,51,52,53,54,55,57] (.seq (g_ 1 [p_ 0 13 (.bin 3 0 (.t 12) (.t 11))]) (.seq (.cond (.t 13) .skip (.exit 2)) (.seq (.block 3 (.seq (g_ 4 [p_ 0 14 (.ixs 3 (.t 10) (.t 12)),r_ 1 15 (.ld true 3 (.t 14)),e_ 2 5 (.al 82 [(o_ 0),(o_ 0),(.bool false)]),bd 3 (.st 3 (.t 5) (.t 15))]) (.seq (g_ 1 [p_ 0 6 (.mv (.c (.str [112,108,97,105,110])))]) (.seq (.seq (g_ 2 [p_ 0 16 (f_ 2 5),r_ 1 17 (l_ 16)]) (.cond (.t 17) (g_ 1 [p_ 0 6 (.mv (.c (.str [99,104,101,99,107])))]) .skip)) (h_ 14 [p_ 0 18 (f_ 0 5),r_ 1 19 (l_ 18),p_ 5 23 (f_ 1 5),r_ 6 24 (l_ 23),p_ 10 28 (m_ 6),c_ 2 20 60 [.t 19],a_ 6 24 (l_ 23),p_ 3 21 (.bin 4 0 (.c (.str [103,114,111,117,112,32])) (.t 20)),p_ 4 22 (.bin 4 0 (.t 21) (.c (.str [32]))),c_ 7 25 60 [.t 24],p_ 8 26 (.bin 4 0 (.t 22) (.t 25)),p_ 9 27 (.bin 4 0 (.t 26) (.c (.str [32]))),p_ 11 29 (.bin 4 0 (.t 27) (.t 28)),p_ 12 30 (.bin 4 0 (.t 29) (.c (.str [10]))),c_ 13 31 31 [(.t 3),(.t 30)]]))))) (g_ 2 [p_ 0 32 (.bin 0 0 (.t 12) (i_ 1)),p_ 1 12 (m_ 32)]))))))) (.seq (.seq (g_ 3 [c_ 0 33 37 [.t 1],p_ 1 34 (k_ 33),p_ 2 35 (.mv (i_ 0))]) (.block 4 (.loop [1,2,3,8,33,34,35,36,37,38,39,40,41,42,43,44,45,46,47,48,50,51,52,53,54,55,57] (.seq (g_ 1 [p_ 0 36 (.bin 3 0 (.t 35) (.t 34))]) (.seq (.cond (.t 36) .skip (.exit 4)) (.seq (.block 5 (.seq (g_ 4 [p_ 0 37 (.ixs 2 (.t 33) (.t 35)),r_ 1 38 (.ld true 2 (.t 37)),e_ 2 8 (.al 106 [(.str []),.nilP]),bd 3 (.st 2 (.t 8) (.t 38))]) (h_ 11 [p_ 0 39 (f_ 0 8),r_ 1 40 (l_ 39),p_ 2 41 (.bin 4 0 (.t 40) (.c (.str [32]))),p_ 3 42 (f_ 1 8),r_ 4 43 (l_ 42),p_ 5 44 (n_ 43),r_ 6 45 (l_ 44),c_ 7 46 60 [.t 45],a_ 1 40 (l_ 39),p_ 8 47 (.bin 4 0 (.t 41) (.t 46)),p_ 9 48 (.bin 4 0 (.t 47) (.c (.str [10]))),c_ 10 49 31 [(.t 3),(.t 48)]]))) (g_ 2 [p_ 0 50 (.bin 0 0 (.t 35) (i_ 1)),p_ 1 35 (m_ 50)]))))))) (.seq (g_ 6 [p_ 0 51 (f_ 7 1),r_ 1 52 (l_ 51),c_ 2 53 61 [(.t 52),(i_ 10)],p_ 3 54 (.bin 4 0 (.c (.str [102,105,114,115,116,32])) (.t 53)),p_ 4 55 (.bin 4 0 (.t 54) (.c (.str [10]))),c_ 5 56 31 [(.t 3),(.t 55)]]) (.seq (g_ 2 [c_ 0 57 35 [.t 3],p_ 1 2 (m_ 57)]) .ret))))))
theorem VE:bh 32 VF:=⟨by kernel_rfl,by kernel_rfl⟩
def VD:XF:=.mk 52 (.one 2) (.seq (g_ 2 [e_ 0 1 (.box 54 (.t 0)),p_ 1 2 (.mv (.c (.str [])))]) (.seq (g_ 5 [p_ 0 8 (f_ 0 1),r_ 1 9 (l_ 8),c_ 2 10 62 [.t 9],e_ 3 11 (.bsl 9 1 1 [(.str [])] [(0,1)] [.t 10]),p_ 4 3 (m_ 11)]) (.seq (.seq (g_ 3 [c_ 0 12 63 [.t 1],p_ 1 13 (k_ 12),p_ 2 14 (.mv (i_ 0))]) (.block 2 (.loop [1,2,3,5,7,12,13,14,15,16,17,18,19,20,21,22,23,24,25,26,27,28,29,30,31,32,33,34,35,36,37,38,39,40,41,42,43,44,45,46,47,48,49,50,51] (.seq (g_ 1 [p_ 0 15 (.bin 3 0 (.t 14) (.t 13))]) (.seq (.cond (.t 15) .skip (.exit 2)) (.seq (.block 3 (.seq (g_ 3 [p_ 0 16 (.ixs 1 (.t 12) (.t 14)),r_ 1 17 (l_ 16),p_ 2 5 (m_ 17)]) (g_ 8 [p_ 0 18 (m_ 3),p_ 1 19 (m_ 5),p_ 2 20 (n_ 19),r_ 3 21 (l_ 20),c_ 4 22 60 [.t 21],e_ 5 23 (.bsl 9 1 1 [(.str [])] [(0,1)] [.t 22]),e_ 6 24 (.app 9 1 16 (.t 18) (.t 23)),p_ 7 3 (m_ 24)]))) (g_ 2 [p_ 0 25 (.bin 0 0 (.t 14) (i_ 1)),p_ 1 14 (m_ 25)]))))))) (.seq (.seq (g_ 3 [p_ 0 26 (f_ 0 1),r_ 1 27 (l_ 26),p_ 2 28 (.bin 3 4 (.t 27) (i_ 5))]) (.cond (.t 28) (g_ 8 [p_ 0 29 (m_ 3),p_ 1 30 (f_ 6 1),r_ 2 31 (l_ 30),p_ 3 32 (.cnv 4 (.t 31)),c_ 4 33 61 [(.t 32),(i_ 10)],e_ 5 34 (.bsl 9 1 1 [(.str [])] [(0,1)] [.t 33]),e_ 6 35 (.app 9 1 16 (.t 29) (.t 34)),p_ 7 3 (m_ 35)]) .skip)) (.seq (.seq (g_ 4 [p_ 0 36 (f_ 8 1),r_ 1 37 (l_ 36),p_ 2 38 (k_ 37),p_ 3 39 (.mv (i_ 0))]) (.block 4 (.loop [2,3,7,37,38,39,40,41,42,43,44,45,46,47,48,49,50,51] (.seq (g_ 1 [p_ 0 40 (.bin 3 0 (.t 39) (.t 38))]) (.seq (.cond (.t 40) .skip (.exit 4)) (.seq (.block 5 (.seq (g_ 4 [p_ 0 41 (.ixs 5 (.t 37) (.t 39)),r_ 1 42 (.ld true 5 (.t 41)),e_ 2 7 (.al 124 [(.int 1 (.ofNat 0)),(.int 1 (.ofNat 0)),(.str []),(.str []),(o_ 0)]),bd 3 (.st 5 (.t 7) (.t 42))]) (g_ 6 [p_ 0 43 (m_ 3),r_ 1 44 (.ld true 5 (.t 7)),c_ 2 45 64 [.t 44],e_ 3 46 (.bsl 9 1 1 [(.str [])] [(0,1)] [.t 45]),e_ 4 47 (.app 9 1 16 (.t 43) (.t 46)),p_ 5 3 (m_ 47)]))) (g_ 2 [p_ 0 48 (.bin 0 0 (.t 39) (i_ 1)),p_ 1 39 (m_ 48)]))))))) (.seq (g_ 4 [p_ 0 49 (m_ 3),c_ 1 50 65 [(.t 49),(.c (.str [32]))],p_ 2 51 (.bin 4 0 (.t 50) (.c (.str [10]))),p_ 3 2 (m_ 51)]) .ret))))))
theorem VC:bh 33 VD:=⟨by kernel_rfl,by kernel_rfl⟩
def VB:XF:=.mk 8 (.one 2) (.seq (g_ 1 [p_ 0 2 (.mv (i_ 0))]) (.seq (g_ 6 [p_ 0 3 (m_ 0),p_ 1 4 (n_ 3),p_ 2 5 (f_ 1 4),r_ 3 6 (l_ 5),p_ 4 7 (k_ 6),p_ 5 2 (m_ 7)]) .ret))
theorem VA:bh 34 VB:=⟨by kernel_rfl,by kernel_rfl⟩
def Vz:XF:=.mk 9 (.one 2) (.seq (g_ 1 [p_ 0 2 (.mv (.c (.bool false)))]) (.seq (g_ 7 [p_ 0 3 (m_ 0),p_ 1 4 (.bin 3 3 (.t 3) (i_ 0)),p_ 2 5 (m_ 4),au 3 6 5 true (m_ 0),au 4 7 5 true (.bin 3 1 (.t 6) (i_ 1099511627776)),p_ 5 8 (.pick (.t 5) (.t 7) (.c (.bool false))),p_ 6 2 (m_ 8)]) .ret))
theorem Vy:bh 36 Vz:=⟨by kernel_rfl,by kernel_rfl⟩
def Vx:XF:=.mk 28 (.one 2) (.seq (g_ 1 [p_ 0 2 (.mv (.c .nilS))]) (.seq (h_ 26 [p_ 0 3 (m_ 0),p_ 1 4 (n_ 3),p_ 2 5 (f_ 1 4),p_ 3 6 (.bld [(.str []),.nilP] [(0,1),(1,1)] [(.c (.str [99,108,105,101,110,116,115])),(.t 5)]),p_ 4 7 (m_ 0),p_ 5 8 (n_ 7),p_ 6 9 (f_ 2 8),p_ 7 10 (.bld [(.str []),.nilP] [(0,1),(1,1)] [(.c (.str [119,105,110,100,111,119])),(.t 9)]),p_ 8 11 (m_ 0),p_ 9 12 (n_ 11),p_ 10 13 (f_ 3 12),p_ 11 14 (.bld [(.str []),.nilP] [(0,1),(1,1)] [(.c (.str [100,101,97,100,108,105,110,101])),(.t 13)]),p_ 12 15 (m_ 0),p_ 13 16 (n_ 15),p_ 14 17 (f_ 4 16),p_ 15 18 (.bld [(.str []),.nilP] [(0,1),(1,1)] [(.c (.str [112,97,99,101])),(.t 17)]),p_ 16 19 (m_ 0),p_ 17 20 (n_ 19),p_ 18 21 (f_ 5 20),p_ 19 22 (.bld [(.str []),.nilP] [(0,1),(1,1)] [(.c (.str [97,103,97,105,110])),(.t 21)]),p_ 20 23 (m_ 0),p_ 21 24 (n_ 23),p_ 22 25 (f_ 6 24),p_ 23 26 (.bld [(.str []),.nilP] [(0,1),(1,1)] [(.c (.str [98,97,103])),(.t 25)]),e_ 24 27 (.bsl 106 2 6 [(.str []),.nilP,(.str []),.nilP,(.str []),.nilP,(.str []),.nilP,(.str []),.nilP,(.str []),.nilP] [(0,2),(2,2),(4,2),(6,2),(8,2),(10,2)] [(.t 6),(.t 10),(.t 14),(.t 18),(.t 22),(.t 26)]),p_ 25 2 (m_ 27)]) .ret))
theorem Vw:bh 37 Vx:=⟨by kernel_rfl,by kernel_rfl⟩
def Vv:XF:=.mk 9 (.one 4) (.seq (g_ 1 [p_ 0 4 (.mv (.c (.bool false)))]) (.seq (g_ 5 [p_ 0 5 (m_ 0),p_ 1 6 (m_ 1),c_ 2 7 66 [(.t 5),(.t 6)],p_ 3 8 (.bin 3 3 (.t 7) (i_ 0)),p_ 4 4 (m_ 8)]) .ret))
theorem Vu:bh 38 Vv:=⟨by kernel_rfl,by kernel_rfl⟩
def Vt:XF:=.mk 6 (.one 2) (.seq (g_ 2 [e_ 0 1 (.box 54 (.t 0)),p_ 1 2 (.mv (.c (.bool false)))]) (.seq (g_ 4 [r_ 0 3 (.ld true 9 (.t 1)),c_ 1 4 40 [.t 3],p_ 2 5 (.un 0 (.t 4)),p_ 3 2 (m_ 5)]) .ret))
theorem Vs:bh 39 Vt:=⟨by kernel_rfl,by kernel_rfl⟩
def Vr:XF:=.mk 50 (.one 2) (.seq (g_ 2 [e_ 0 1 (.box 54 (.t 0)),p_ 1 2 (.mv (.c (.bool false)))]) (.seq (.seq (h_ 11 [p_ 0 5 (f_ 0 1),r_ 1 6 (l_ 5),c_ 2 7 62 [.t 6],p_ 3 8 (.bin 5 0 (.t 7) (.c (.str []))),p_ 4 9 (m_ 8),aY 5 10 9 false (.ld true 9 (.t 1)),aY 6 11 9 false (.ld true 9 (.t 1)),il 7 12 9 false 67 [.t 11],YM 5 10 9 false (.ld true 9 (.t 1)),il 8 13 9 false 43 [(.t 10),(.t 12)],au 9 14 9 false (.un 0 (.t 13)),p_ 10 15 (.pick (.t 9) (.c (.bool true)) (.t 14))]) (.cond (.t 15) (.seq (g_ 1 [p_ 0 2 (.mv (.c (.bool false)))]) .ret) .skip)) (.seq (.seq (g_ 3 [c_ 0 16 63 [.t 1],p_ 1 17 (k_ 16),p_ 2 18 (.mv (i_ 0))]) (.block 2 (.loop [1,2,4,16,17,18,19,20,21,22,23,24,25,26,27,28,29,30,31,32,33,34,35,36,37,38,39,40,41,42,43,44,45,46,47,48,49] (.seq (g_ 1 [p_ 0 19 (.bin 3 0 (.t 18) (.t 17))]) (.seq (.cond (.t 19) .skip (.exit 2)) (.seq (.block 3 (.seq (g_ 3 [p_ 0 20 (.ixs 1 (.t 16) (.t 18)),r_ 1 21 (l_ 20),p_ 2 4 (m_ 21)]) (.seq (g_ 5 [p_ 0 22 (m_ 4),p_ 1 23 (n_ 22),r_ 2 24 (l_ 23),c_ 3 25 36 [.t 24],p_ 4 26 (.un 0 (.t 25))]) (.cond (.t 26) (.seq (g_ 1 [p_ 0 2 (.mv (.c (.bool false)))]) .ret) .skip)))) (g_ 2 [p_ 0 27 (.bin 0 0 (.t 18) (i_ 1)),p_ 1 18 (m_ 27)]))))))) (.seq (.seq (g_ 3 [p_ 0 28 (f_ 0 1),r_ 1 29 (l_ 28),p_ 2 30 (.bin 3 5 (.t 29) (i_ 0))]) (.cond (.t 30) (.seq (g_ 1 [p_ 0 2 (.mv (.c (.bool true)))]) .ret) .skip)) (.seq (h_ 20 [p_ 0 31 (f_ 8 1),r_ 1 32 (l_ 31),c_ 2 33 68 [.t 32],p_ 3 34 (m_ 33),au 4 35 34 true (f_ 8 1),aY 5 36 34 true (l_ 35),au 6 37 34 true (.ixs 5 (.t 36) (i_ 0)),au 7 38 34 true (f_ 0 37),aY 8 39 34 true (l_ 38),au 9 40 34 true (f_ 7 1),aY 10 41 34 true (l_ 40),au 11 42 34 true (.bin 3 4 (.t 39) (.t 41)),p_ 12 43 (.pick (.t 34) (.t 42) (.c (.bool false))),p_ 13 44 (m_ 43),au 14 45 44 true (f_ 8 1),aY 15 46 44 true (l_ 45),il 16 47 44 true 69 [(.t 46),(.f 70)],au 17 48 44 true (.un 0 (.t 47)),p_ 18 49 (.pick (.t 44) (.t 48) (.c (.bool false))),p_ 19 2 (m_ 49)]) .ret)))))
theorem Vq:bh 40 Vr:=⟨by kernel_rfl,by kernel_rfl⟩
def Vp:XF:=.mk 66 (.one 4) (.seq (g_ 3 [e_ 0 2 (.box 54 (.t 0)),e_ 1 3 (.box 54 (.t 1)),p_ 2 4 (.mv (.c (.bool false)))]) (.seq (g_ 62 [p_ 0 5 (f_ 0 2),r_ 1 6 (l_ 5),p_ 2 7 (f_ 0 3),r_ 3 8 (l_ 7),p_ 4 9 (.bin 3 4 (.t 6) (.t 8)),p_ 5 10 (m_ 9),au 6 11 10 true (f_ 1 2),aY 7 12 10 true (l_ 11),au 8 13 10 true (f_ 1 3),aY 9 14 10 true (l_ 13),au 10 15 10 true (.bin 3 4 (.t 12) (.t 14)),p_ 11 16 (.pick (.t 10) (.t 15) (.c (.bool false))),p_ 12 17 (m_ 16),au 13 18 17 true (f_ 2 2),aY 14 19 17 true (l_ 18),au 15 20 17 true (f_ 2 3),aY 16 21 17 true (l_ 20),au 17 22 17 true (.bin 3 4 (.t 19) (.t 21)),p_ 18 23 (.pick (.t 17) (.t 22) (.c (.bool false))),p_ 19 24 (m_ 23),au 20 25 24 true (f_ 3 2),aY 21 26 24 true (l_ 25),au 22 27 24 true (f_ 3 3),aY 23 28 24 true (l_ 27),au 24 29 24 true (.bin 3 4 (.t 26) (.t 28)),p_ 25 30 (.pick (.t 24) (.t 29) (.c (.bool false))),p_ 26 31 (m_ 30),au 27 32 31 true (f_ 4 2),aY 28 33 31 true (l_ 32),au 29 34 31 true (f_ 4 3),aY 30 35 31 true (l_ 34),au 31 36 31 true (.bin 3 4 (.t 33) (.t 35)),p_ 32 37 (.pick (.t 31) (.t 36) (.c (.bool false))),p_ 33 38 (m_ 37),au 34 39 38 true (f_ 5 2),aY 35 40 38 true (l_ 39),au 36 41 38 true (f_ 5 3),aY 37 42 38 true (l_ 41),au 38 43 38 true (.bin 3 4 (.t 40) (.t 42)),p_ 39 44 (.pick (.t 38) (.t 43) (.c (.bool false))),p_ 40 45 (m_ 44),au 41 46 45 true (f_ 6 2),aY 42 47 45 true (l_ 46),au 43 48 45 true (f_ 6 3),aY 44 49 45 true (l_ 48),au 45 50 45 true (.bin 3 4 (.t 47) (.t 49)),p_ 46 51 (.pick (.t 45) (.t 50) (.c (.bool false))),p_ 47 52 (m_ 51),au 48 53 52 true (f_ 7 2),aY 49 54 52 true (l_ 53),au 50 55 52 true (f_ 7 3),aY 51 56 52 true (l_ 55),au 52 57 52 true (.bin 3 4 (.t 54) (.t 56)),p_ 53 58 (.pick (.t 52) (.t 57) (.c (.bool false))),p_ 54 59 (m_ 58),au 55 60 59 true (f_ 8 2),aY 56 61 59 true (l_ 60),au 57 62 59 true (f_ 8 3),aY 58 63 59 true (l_ 62),il 59 64 59 true 73 [(.t 61),(.t 63)],p_ 60 65 (.pick (.t 59) (.t 64) (.c (.bool false))),p_ 61 4 (m_ 65)]) .ret))
theorem Vo:bh 43 Vp:=⟨by kernel_rfl,by kernel_rfl⟩
def Vn:XF:=.mk 24 (.two 2 3) (.seq (g_ 2 [p_ 0 2 (.mv (.c (.str []))),p_ 1 3 (.mv (.c (.str [])))]) (.seq (g_ 2 [e_ 0 6 (.bsl 9 1 12 [(.str []),(.str []),(.str []),(.str []),(.str []),(.str []),(.str []),(.str []),(.str []),(.str []),(.str []),(.str [])] [(0,1),(1,1),(2,1),(3,1),(4,1),(5,1),(6,1),(7,1),(8,1),(9,1),(10,1),(11,1)] [(.c (.str [105,110,118,111,107,101])),(.c (.str [115,108,97,121])),(.c (.str [100,101,108,105,118,101,114])),(.c (.str [100,114,111,112])),(.c (.str [116,119,105,99,101])),(.c (.str [115,112,111,105,108])),(.c (.str [116,105,99,107])),(.c (.str [115,117,115,112,101,99,116])),(.c (.str [99,114,97,115,104])),(.c (.str [114,101,115,116,97,114,116])),(.c (.str [106,111,105,110])),(.c (.str [108,101,97,118,101]))]),p_ 1 4 (m_ 6)]) (.seq (g_ 2 [e_ 0 7 (.bsl 9 1 12 [(.str []),(.str []),(.str []),(.str []),(.str []),(.str []),(.str []),(.str []),(.str []),(.str []),(.str []),(.str [])] [(0,1),(1,1),(2,1),(3,1),(4,1),(5,1),(6,1),(7,1),(8,1),(9,1),(10,1),(11,1)] [(.c (.str [120,109])),(.c (.str [120,121])),(.c (.str [105])),(.c (.str [105])),(.c (.str [105])),(.c (.str [105,97,107])),(.c (.str [120])),(.c (.str [120,121])),(.c (.str [120])),(.c (.str [120])),(.c (.str [120])),(.c (.str [120]))]),p_ 1 5 (m_ 7)]) (.seq (.seq (g_ 8 [p_ 0 8 (m_ 0),p_ 1 9 (.bin 3 0 (.t 8) (i_ 0)),p_ 2 10 (m_ 9),au 3 11 10 false (m_ 0),au 4 12 10 false (m_ 4),au 5 13 10 false (k_ 12),au 6 14 10 false (.bin 3 3 (.t 11) (.t 13)),p_ 7 15 (.pick (.t 10) (.c (.bool true)) (.t 14))]) (.cond (.t 15) (.seq (g_ 2 [p_ 0 2 (.mv (.c (.str []))),p_ 1 3 (.mv (.c (.str [])))]) .ret) .skip)) (.seq (h_ 10 [p_ 0 16 (m_ 4),p_ 1 17 (m_ 0),p_ 2 18 (.ixs 1 (.t 16) (.t 17)),r_ 3 19 (l_ 18),p_ 4 20 (m_ 5),p_ 5 21 (m_ 0),p_ 6 22 (.ixs 1 (.t 20) (.t 21)),r_ 7 23 (l_ 22),p_ 8 2 (m_ 19),p_ 9 3 (m_ 23)]) .ret)))))
theorem Vm:bh 51 Vn:=⟨by kernel_rfl,by kernel_rfl⟩
def Vl:XF:=.mk 32 (.cell 6 true 9) (.seq (g_ 2 [e_ 0 3 (.box 79 (.t 0)),e_ 1 6 (.al 79 [(o_ 0),(o_ 0),(o_ 0),(o_ 0),(o_ 0),(o_ 0),(.int 3 (.ofNat 0)),(.int 1 (.ofNat 0)),.nilS])]) (.seq (.seq (g_ 1 [p_ 0 7 (m_ 1)]) (.block 2 (.seq (g_ 2 [p_ 0 12 (.bin 3 4 (.t 7) (.c (.int 1 (.ofNat 120)))),p_ 1 11 (m_ 12)]) (.cond (.t 11) (g_ 3 [p_ 0 13 (m_ 2),p_ 1 14 (f_ 1 3),bd 2 (.st 1 (.t 14) (.t 13))]) (.seq (g_ 2 [p_ 0 16 (.bin 3 4 (.t 7) (.c (.int 1 (.ofNat 121)))),p_ 1 15 (m_ 16)]) (.cond (.t 15) (g_ 3 [p_ 0 17 (m_ 2),p_ 1 18 (f_ 2 3),bd 2 (.st 1 (.t 18) (.t 17))]) (.seq (g_ 2 [p_ 0 20 (.bin 3 4 (.t 7) (.c (.int 1 (.ofNat 109)))),p_ 1 19 (m_ 20)]) (.cond (.t 19) (g_ 3 [p_ 0 21 (m_ 2),p_ 1 22 (f_ 5 3),bd 2 (.st 1 (.t 22) (.t 21))]) (.seq (g_ 2 [p_ 0 24 (.bin 3 4 (.t 7) (.c (.int 1 (.ofNat 105)))),p_ 1 23 (m_ 24)]) (.cond (.t 23) (g_ 3 [p_ 0 25 (m_ 2),p_ 1 26 (f_ 3 3),bd 2 (.st 1 (.t 26) (.t 25))]) (.seq (g_ 2 [p_ 0 28 (.bin 3 4 (.t 7) (.c (.int 1 (.ofNat 97)))),p_ 1 27 (m_ 28)]) (.cond (.t 27) (g_ 3 [p_ 0 29 (m_ 2),p_ 1 30 (f_ 4 3),bd 2 (.st 1 (.t 30) (.t 29))]) (g_ 4 [p_ 0 8 (m_ 2),p_ 1 9 (.cnv 3 (.t 8)),p_ 2 10 (f_ 6 3),bd 3 (.st 1 (.t 10) (.t 9))]))))))))))))) (.seq (g_ 2 [r_ 0 31 (.ld true 9 (.t 3)),bd 1 (.st 9 (.t 6) (.t 31))]) .ret)))
theorem Vk:bh 52 Vl:=⟨by kernel_rfl,by kernel_rfl⟩
def Vj:XF:=.mk 14 (.cell 2 true 5) (.seq (g_ 2 [e_ 0 1 (.box 124 (.t 0)),e_ 1 2 (.al 118 [(.int 1 (.ofNat 0)),(.int 1 (.ofNat 0)),(.str []),(.str []),(o_ 0)])]) (.seq (g_ 12 [p_ 0 3 (f_ 0 1),r_ 1 4 (l_ 3),p_ 2 5 (f_ 1 1),r_ 3 6 (l_ 5),p_ 4 7 (f_ 2 1),r_ 5 8 (l_ 7),p_ 6 9 (f_ 3 1),r_ 7 10 (l_ 9),p_ 8 11 (f_ 4 1),r_ 9 12 (l_ 11),p_ 10 13 (.bld [(.int 1 (.ofNat 0)),(.int 1 (.ofNat 0)),(.str []),(.str []),(o_ 0)] [(0,1),(1,1),(2,1),(3,1),(4,1)] [(.t 4),(.t 6),(.t 8),(.t 10),(.t 12)]),bd 11 (.st 5 (.t 2) (.t 13))]) .ret))
theorem Vi:bh 56 Vj:=⟨by kernel_rfl,by kernel_rfl⟩
def Vh:XF:=.mk 8 (.one 4) (.seq (g_ 1 [p_ 0 4 (.mv (.c (.str [])))]) (.seq (g_ 4 [p_ 0 5 (m_ 0),p_ 1 6 (m_ 1),c_ 2 7 90 [(.t 5),(.t 6)],p_ 3 4 (m_ 7)]) .ret))
theorem Vg:bh 61 Vh:=⟨by kernel_rfl,by kernel_rfl⟩
def Vf:XF:=.mk 14 (.one 2) (.seq (g_ 1 [p_ 0 2 (.mv (.c (.str [])))]) (.seq (g_ 3 [p_ 0 4 (.bld [(.str []),(.str []),(.str []),(.str []),(.str []),(.str []),(.str []),(.str []),(.str []),(.str []),(.str []),(.str [])] [(0,1),(1,1),(2,1),(3,1),(4,1),(5,1),(6,1),(7,1),(8,1),(9,1),(10,1),(11,1)] [(.c (.str [105,110,118,111,107,101])),(.c (.str [115,108,97,121])),(.c (.str [100,101,108,105,118,101,114])),(.c (.str [100,114,111,112])),(.c (.str [116,119,105,99,101])),(.c (.str [115,112,111,105,108])),(.c (.str [116,105,99,107])),(.c (.str [115,117,115,112,101,99,116])),(.c (.str [99,114,97,115,104])),(.c (.str [114,101,115,116,97,114,116])),(.c (.str [106,111,105,110])),(.c (.str [108,101,97,118,101]))]),e_ 1 3 (.al 154 [(.str []),(.str []),(.str []),(.str []),(.str []),(.str []),(.str []),(.str []),(.str []),(.str []),(.str []),(.str [])]),bd 2 (.st 12 (.t 3) (.t 4))]) (.seq (.seq (g_ 6 [p_ 0 5 (m_ 0),p_ 1 6 (.bin 3 0 (.t 5) (i_ 0)),p_ 2 7 (m_ 6),au 3 8 7 false (m_ 0),au 4 9 7 false (.bin 3 3 (.t 8) (i_ 12)),p_ 5 10 (.pick (.t 7) (.c (.bool true)) (.t 9))]) (.cond (.t 10) (.seq (g_ 1 [p_ 0 2 (.mv (.c (.str [])))]) .ret) .skip)) (.seq (g_ 4 [p_ 0 11 (m_ 0),p_ 1 12 (.ixa 12 1 (.t 3) (.t 11)),r_ 2 13 (l_ 12),p_ 3 2 (m_ 13)]) .ret))))
theorem Ve:bh 62 Vf:=⟨by kernel_rfl,by kernel_rfl⟩
def Vd:XF:=.mk 47 (.one 2) (.seq (g_ 1 [p_ 0 2 (.mv (.c .nilS))]) (.seq (.seq (g_ 4 [p_ 0 3 (m_ 0),p_ 1 4 (n_ 3),p_ 2 5 (f_ 0 4),r_ 3 6 (l_ 5)]) (.block 2 (.seq (g_ 2 [p_ 0 8 (.bin 3 4 (.t 6) (i_ 0)),p_ 1 7 (m_ 8)]) (.cond (.t 7) (.seq (h_ 8 [p_ 0 9 (m_ 0),p_ 1 10 (n_ 9),p_ 2 11 (f_ 1 10),p_ 3 12 (m_ 0),p_ 4 13 (n_ 12),p_ 5 14 (f_ 5 13),e_ 6 15 (.bsl 104 1 2 [.nilP,.nilP] [(0,1),(1,1)] [(.t 11),(.t 14)]),p_ 7 2 (m_ 15)]) .ret) (.seq (.seq (g_ 2 [p_ 0 17 (.bin 3 4 (.t 6) (i_ 1)),p_ 1 16 (m_ 17)]) (.cond (.t 16) .skip (g_ 2 [p_ 0 18 (.bin 3 4 (.t 6) (i_ 7)),p_ 1 16 (m_ 18)]))) (.cond (.t 16) (.seq (h_ 8 [p_ 0 19 (m_ 0),p_ 1 20 (n_ 19),p_ 2 21 (f_ 1 20),p_ 3 22 (m_ 0),p_ 4 23 (n_ 22),p_ 5 24 (f_ 2 23),e_ 6 25 (.bsl 104 1 2 [.nilP,.nilP] [(0,1),(1,1)] [(.t 21),(.t 24)]),p_ 7 2 (m_ 25)]) .ret) (.seq (.seq (g_ 2 [p_ 0 27 (.bin 3 4 (.t 6) (i_ 2)),p_ 1 26 (m_ 27)]) (.cond (.t 26) .skip (.seq (g_ 2 [p_ 0 28 (.bin 3 4 (.t 6) (i_ 3)),p_ 1 26 (m_ 28)]) (.cond (.t 26) .skip (g_ 2 [p_ 0 29 (.bin 3 4 (.t 6) (i_ 4)),p_ 1 26 (m_ 29)]))))) (.cond (.t 26) (.seq (g_ 5 [p_ 0 30 (m_ 0),p_ 1 31 (n_ 30),p_ 2 32 (f_ 3 31),e_ 3 33 (.bsl 104 1 1 [.nilP] [(0,1)] [.t 32]),p_ 4 2 (m_ 33)]) .ret) (.seq (g_ 2 [p_ 0 35 (.bin 3 4 (.t 6) (i_ 5)),p_ 1 34 (m_ 35)]) (.cond (.t 34) (.seq (h_ 8 [p_ 0 36 (m_ 0),p_ 1 37 (n_ 36),p_ 2 38 (f_ 3 37),p_ 3 39 (m_ 0),p_ 4 40 (n_ 39),p_ 5 41 (f_ 4 40),e_ 6 42 (.bsl 104 1 2 [.nilP,.nilP] [(0,1),(1,1)] [(.t 38),(.t 41)]),p_ 7 2 (m_ 42)]) .ret) .skip)))))))))) (.seq (g_ 5 [p_ 0 43 (m_ 0),p_ 1 44 (n_ 43),p_ 2 45 (f_ 1 44),e_ 3 46 (.bsl 104 1 1 [.nilP] [(0,1)] [.t 45]),p_ 4 2 (m_ 46)]) .ret)))
theorem Vc:bh 63 Vd:=⟨by kernel_rfl,by kernel_rfl⟩
def Vb:XF:=.mk 19 (.one 4) (.seq (g_ 1 [p_ 0 4 (.mv (i_ 0))]) (.seq (.seq (g_ 3 [p_ 0 6 (m_ 0),p_ 1 7 (k_ 6),p_ 2 8 (.mv (i_ 0))]) (.block 2 (.loop [0,1,4,5,7,8,9,10,11,12,13,14,15,16,17,18] (.seq (g_ 1 [p_ 0 9 (.bin 3 0 (.t 8) (.t 7))]) (.seq (.cond (.t 9) .skip (.exit 2)) (.seq (.block 3 (.seq (g_ 2 [p_ 0 10 (m_ 8),p_ 1 5 (m_ 10)]) (.seq (g_ 6 [p_ 0 11 (m_ 1),p_ 1 12 (m_ 0),p_ 2 13 (m_ 5),p_ 3 14 (.ixs 9 (.t 12) (.t 13)),r_ 4 15 (.ld true 9 (.t 14)),.k 5 (some 16) none 11 [39] [.t 15]]) (.cond (.t 16) (.seq (g_ 2 [p_ 0 17 (m_ 5),p_ 1 4 (m_ 17)]) .ret) .skip)))) (g_ 2 [p_ 0 18 (.bin 0 0 (.t 8) (i_ 1)),p_ 1 8 (m_ 18)]))))))) (.seq (g_ 1 [p_ 0 4 (.mv (.c (.int 0 (.negSucc 0))))]) .ret)))
theorem Va:bh 66 Vb:=⟨by kernel_rfl,by kernel_rfl⟩
def UZ:XF:=.mk 45 (.cell 2 true 9) (.seq (g_ 2 [e_ 0 1 (.box 54 (.t 0)),e_ 1 2 (.al 54 [(o_ 0),(o_ 0),(o_ 0),(o_ 0),(o_ 0),(o_ 0),(.int 3 (.ofNat 0)),(.int 1 (.ofNat 0)),.nilS])]) (.seq (g_ 5 [p_ 0 7 (f_ 0 1),r_ 1 8 (l_ 7),p_ 2 9 (.bld [(o_ 0),(o_ 0),(o_ 0),(o_ 0),(o_ 0),(o_ 0),(.int 3 (.ofNat 0)),(.int 1 (.ofNat 0)),.nilS] [(0,1)] [.t 8]),e_ 3 3 (.al 54 [(o_ 0),(o_ 0),(o_ 0),(o_ 0),(o_ 0),(o_ 0),(.int 3 (.ofNat 0)),(.int 1 (.ofNat 0)),.nilS]),bd 4 (.st 9 (.t 3) (.t 9))]) (.seq (g_ 4 [c_ 0 10 63 [.t 1],c_ 1 11 63 [.t 3],p_ 2 4 (m_ 10),p_ 3 5 (m_ 11)]) (.seq (.seq (g_ 3 [p_ 0 12 (m_ 5),p_ 1 13 (k_ 12),p_ 2 14 (.mv (i_ 0))]) (.block 2 (.loop [1,2,3,4,5,6,13,14,15,16,17,18,19,20,21,22,23,24,25,26,27,28,29,30,31,32,33,34,35,36,37,38,39,40,41,42,43,44] (.seq (g_ 1 [p_ 0 15 (.bin 3 0 (.t 14) (.t 13))]) (.seq (.cond (.t 15) .skip (.exit 2)) (.seq (.block 3 (.seq (g_ 2 [p_ 0 16 (m_ 14),p_ 1 6 (m_ 16)]) (h_ 12 [p_ 0 17 (m_ 5),p_ 1 18 (m_ 6),p_ 2 19 (.ixs 1 (.t 17) (.t 18)),r_ 3 20 (l_ 19),p_ 4 21 (m_ 4),p_ 5 22 (m_ 6),p_ 6 23 (.ixs 1 (.t 21) (.t 22)),r_ 7 24 (l_ 23),p_ 8 25 (n_ 24),r_ 9 26 (l_ 25),p_ 10 27 (n_ 20),bd 11 (.st 1 (.t 27) (.t 26))]))) (g_ 2 [p_ 0 28 (.bin 0 0 (.t 14) (i_ 1)),p_ 1 14 (m_ 28)]))))))) (.seq (.seq (g_ 2 [p_ 0 29 (f_ 0 1),r_ 1 30 (l_ 29)]) (.block 4 (.seq (g_ 2 [p_ 0 32 (.bin 3 4 (.t 30) (i_ 5)),p_ 1 31 (m_ 32)]) (.cond (.t 31) (g_ 4 [p_ 0 33 (f_ 6 1),r_ 1 34 (l_ 33),p_ 2 35 (f_ 6 3),bd 3 (.st 1 (.t 35) (.t 34))]) (.seq (g_ 2 [p_ 0 37 (.bin 3 4 (.t 30) (i_ 0)),p_ 1 36 (m_ 37)]) (.cond (.t 36) (g_ 8 [p_ 0 38 (f_ 7 1),r_ 1 39 (l_ 38),p_ 2 40 (f_ 8 1),r_ 3 41 (l_ 40),p_ 4 42 (f_ 7 3),bd 5 (.st 1 (.t 42) (.t 39)),p_ 6 43 (f_ 8 3),bd 7 (.st 1 (.t 43) (.t 41))]) .skip)))))) (.seq (g_ 2 [r_ 0 44 (.ld true 9 (.t 3)),bd 1 (.st 9 (.t 2) (.t 44))]) .ret))))))
theorem UY:bh 67 UZ:=⟨by kernel_rfl,by kernel_rfl⟩
def UX:XF:=.mk 14 (.one 2) (.seq (g_ 1 [p_ 0 2 (.mv (.c (.bool false)))]) (.seq (.seq (g_ 8 [p_ 0 3 (m_ 0),p_ 1 4 (k_ 3),p_ 2 5 (.bin 3 0 (.t 4) (i_ 1)),p_ 3 6 (m_ 5),au 4 7 6 false (m_ 0),au 5 8 6 false (k_ 7),au 6 9 6 false (.bin 3 2 (.t 8) (i_ 4)),p_ 7 10 (.pick (.t 6) (.c (.bool true)) (.t 9))]) (.cond (.t 10) (.seq (g_ 1 [p_ 0 2 (.mv (.c (.bool false)))]) .ret) .skip)) (.seq (g_ 4 [p_ 0 11 (m_ 0),c_ 1 12 69 [(.t 11),(.f 94)],p_ 2 13 (.un 0 (.t 12)),p_ 3 2 (m_ 13)]) .ret)))
theorem UW:bh 68 UX:=⟨by kernel_rfl,by kernel_rfl⟩
def UV:XF:=.mk 9 (.one 4) (.seq (g_ 1 [p_ 0 4 (.mv (.c (.bool false)))]) (.seq (g_ 5 [p_ 0 5 (m_ 0),p_ 1 6 (m_ 1),c_ 2 7 96 [(.t 5),(.t 6)],p_ 3 8 (.bin 3 3 (.t 7) (i_ 0)),p_ 4 4 (m_ 8)]) .ret))
theorem UU:bh 69 UV:=⟨by kernel_rfl,by kernel_rfl⟩
def UT:XF:=.mk 6 (.one 2) (.seq (g_ 2 [e_ 0 1 (.box 124 (.t 0)),p_ 1 2 (.mv (.c (.bool false)))]) (.seq (g_ 4 [r_ 0 3 (.ld true 5 (.t 1)),c_ 1 4 71 [.t 3],p_ 2 5 (.un 0 (.t 4)),p_ 3 2 (m_ 5)]) .ret))
theorem US:bh 70 UT:=⟨by kernel_rfl,by kernel_rfl⟩
def UR:XF:=.mk 20 (.one 2) (.seq (g_ 2 [e_ 0 1 (.box 124 (.t 0)),p_ 1 2 (.mv (.c (.bool false)))]) (.seq (g_ 18 [r_ 0 3 (.ld true 5 (.t 1)),c_ 1 4 95 [.t 3],p_ 2 5 (m_ 4),au 3 6 5 true (f_ 2 1),aY 4 7 5 true (l_ 6),il 5 8 5 true 97 [.t 7],p_ 6 9 (.pick (.t 5) (.t 8) (.c (.bool false))),p_ 7 10 (m_ 9),au 8 11 10 true (f_ 1 1),aY 9 12 10 true (l_ 11),au 10 13 10 true (.bin 3 5 (.t 12) (.c (.int 1 (.ofNat 1)))),au 11 14 10 true (m_ 13),au 12 15 14 false (f_ 3 1),aY 13 16 14 false (l_ 15),il 14 17 14 false 97 [.t 16],au 15 18 10 true (.pick (.t 14) (.c (.bool true)) (.t 17)),p_ 16 19 (.pick (.t 10) (.t 18) (.c (.bool false))),p_ 17 2 (m_ 19)]) .ret))
theorem UQ:bh 71 UR:=⟨by kernel_rfl,by kernel_rfl⟩
def UP:XF:=.mk 8 (.one 4) (.seq (g_ 1 [p_ 0 4 (.mv (.c (.bool false)))]) (.seq (g_ 4 [p_ 0 5 (m_ 0),p_ 1 6 (m_ 1),c_ 2 7 98 [(.t 5),(.t 6)],p_ 3 4 (m_ 7)]) .ret))
theorem UO:bh 73 UP:=⟨by kernel_rfl,by kernel_rfl⟩
def UN:XF:=.mk 13 (.one 2) (.seq (g_ 1 [p_ 0 2 (.mv (i_ 0))]) (.seq (.seq (g_ 1 [p_ 0 4 (.mv (i_ 0))]) (.block 2 (.loop [0,2,3,4,5,6,7,8,9,10,11,12] (.seq (g_ 1 [p_ 0 5 (.bin 3 0 (.t 4) (i_ 12))]) (.seq (.cond (.t 5) .skip (.exit 2)) (.seq (.block 3 (.seq (g_ 2 [p_ 0 6 (m_ 4),p_ 1 3 (m_ 6)]) (.seq (g_ 4 [p_ 0 7 (m_ 3),c_ 1 8 62 [.t 7],p_ 2 9 (m_ 0),p_ 3 10 (.bin 5 0 (.t 8) (.t 9))]) (.cond (.t 10) (.seq (g_ 2 [p_ 0 11 (m_ 3),p_ 1 2 (m_ 11)]) .ret) .skip)))) (g_ 2 [p_ 0 12 (.bin 0 0 (.t 4) (i_ 1)),p_ 1 4 (m_ 12)]))))))) (.seq (g_ 1 [p_ 0 2 (.mv (.c (.int 0 (.negSucc 0))))]) .ret)))
theorem UM:bh 77 UN:=⟨by kernel_rfl,by kernel_rfl⟩
def UL:XF:=.mk 16 (.one 2) (.seq (g_ 1 [p_ 0 2 (.mv (.c (.bool false)))]) (.seq (g_ 14 [p_ 0 3 (m_ 0),p_ 1 4 (n_ 3),p_ 2 5 (f_ 1 4),r_ 3 6 (l_ 5),p_ 4 7 (.un 0 (.t 6)),p_ 5 8 (m_ 7),au 6 9 8 true (m_ 0),au 7 10 8 true (n_ 9),au 8 11 8 true (f_ 0 10),aY 9 12 8 true (l_ 11),au 10 13 8 true (k_ 12),au 11 14 8 true (.bin 3 4 (.t 13) (i_ 0)),p_ 12 15 (.pick (.t 8) (.t 14) (.c (.bool false))),p_ 13 2 (m_ 15)]) .ret))
theorem UK:bh 82 UL:=⟨by kernel_rfl,by kernel_rfl⟩
def UJ:XF:=.mk 29 (.one 4) (.seq (g_ 2 [e_ 0 2 (.box 79 (.t 0)),p_ 1 4 (.mv (i_ 0))]) (.seq (.seq (g_ 1 [p_ 0 5 (m_ 1)]) (.block 2 (.seq (g_ 2 [p_ 0 7 (.bin 3 4 (.t 5) (.c (.int 1 (.ofNat 120)))),p_ 1 6 (m_ 7)]) (.cond (.t 6) (.seq (g_ 3 [p_ 0 8 (f_ 1 2),r_ 1 9 (l_ 8),p_ 2 4 (m_ 9)]) .ret) (.seq (g_ 2 [p_ 0 11 (.bin 3 4 (.t 5) (.c (.int 1 (.ofNat 121)))),p_ 1 10 (m_ 11)]) (.cond (.t 10) (.seq (g_ 3 [p_ 0 12 (f_ 2 2),r_ 1 13 (l_ 12),p_ 2 4 (m_ 13)]) .ret) (.seq (g_ 2 [p_ 0 15 (.bin 3 4 (.t 5) (.c (.int 1 (.ofNat 109)))),p_ 1 14 (m_ 15)]) (.cond (.t 14) (.seq (g_ 3 [p_ 0 16 (f_ 5 2),r_ 1 17 (l_ 16),p_ 2 4 (m_ 17)]) .ret) (.seq (g_ 2 [p_ 0 19 (.bin 3 4 (.t 5) (.c (.int 1 (.ofNat 105)))),p_ 1 18 (m_ 19)]) (.cond (.t 18) (.seq (g_ 3 [p_ 0 20 (f_ 3 2),r_ 1 21 (l_ 20),p_ 2 4 (m_ 21)]) .ret) (.seq (g_ 2 [p_ 0 23 (.bin 3 4 (.t 5) (.c (.int 1 (.ofNat 97)))),p_ 1 22 (m_ 23)]) (.cond (.t 22) (.seq (g_ 3 [p_ 0 24 (f_ 4 2),r_ 1 25 (l_ 24),p_ 2 4 (m_ 25)]) .ret) .skip)))))))))))) (.seq (g_ 4 [p_ 0 26 (f_ 6 2),r_ 1 27 (l_ 26),p_ 2 28 (.cnv 0 (.t 27)),p_ 3 4 (m_ 28)]) .ret)))
theorem UI:bh 85 UJ:=⟨by kernel_rfl,by kernel_rfl⟩
def UH:XF:=.mk 32 (.one 4) (.seq (g_ 1 [p_ 0 4 (.mv (.c (.str [])))]) (.seq (.seq (g_ 2 [p_ 0 9 (m_ 1),p_ 1 10 (.bin 3 4 (.t 9) (i_ 10))]) (.cond (.t 10) (.seq (.seq (g_ 2 [p_ 0 11 (m_ 0),p_ 1 12 (.bin 3 0 (.t 11) (.c (.int 4 (.ofNat 100))))]) (.cond (.t 12) (.seq (g_ 4 [p_ 0 13 (m_ 0),p_ 1 14 (.cnv 0 (.t 13)),c_ 2 15 107 [.t 14],p_ 3 4 (m_ 15)]) .ret) .skip)) (.seq (g_ 1 [e_ 0 5 (.al 164 [(.int 1 (.ofNat 0)),(.int 1 (.ofNat 0)),(.int 1 (.ofNat 0)),(.int 1 (.ofNat 0)),(.int 1 (.ofNat 0)),(.int 1 (.ofNat 0)),(.int 1 (.ofNat 0)),(.int 1 (.ofNat 0)),(.int 1 (.ofNat 0)),(.int 1 (.ofNat 0)),(.int 1 (.ofNat 0)),(.int 1 (.ofNat 0)),(.int 1 (.ofNat 0)),(.int 1 (.ofNat 0)),(.int 1 (.ofNat 0)),(.int 1 (.ofNat 0)),(.int 1 (.ofNat 0)),(.int 1 (.ofNat 0)),(.int 1 (.ofNat 0)),(.int 1 (.ofNat 0)),(.int 1 (.ofNat 0)),(.int 1 (.ofNat 0)),(.int 1 (.ofNat 0)),(.int 1 (.ofNat 0))])]) (.seq (g_ 3 [p_ 0 16 (m_ 0),c_ 1 17 108 [.t 16],p_ 2 6 (m_ 17)]) (.seq (g_ 4 [p_ 0 18 (m_ 6),p_ 1 19 .bad,p_ 2 20 (m_ 0),c_ 3 21 109 [(.t 19),(.t 20)]]) (.seq (g_ 4 [p_ 0 22 (m_ 6),p_ 1 23 .bad,p_ 2 24 .bad,p_ 3 4 (m_ 24)]) .ret))))) .skip)) (.seq (g_ 8 [p_ 0 26 (m_ 0),p_ 1 27 (m_ 1),c_ 2 28 110 [(.c .nilS),(.t 26),(.t 27),(.c (.bool false)),(.c (.bool false))],p_ 3 25 (m_ 28),p_ 4 29 (.ext 0 (.t 25)),p_ 5 30 (.ext 1 (.t 25)),p_ 6 7 (m_ 29),p_ 7 8 (m_ 30)]) (.seq (g_ 2 [p_ 0 31 (m_ 8),p_ 1 4 (m_ 31)]) .ret))))
theorem UG:bh 90 UH:=⟨by kernel_rfl,by kernel_rfl⟩
def UF:XF:=.mk 7 (.one 2) (.seq (g_ 1 [p_ 0 2 (.mv (.c (.str [])))]) (.seq (g_ 5 [p_ 0 3 (.bld [(.str []),(.str []),(.str []),(.str []),(.str [])] [(0,1),(1,1),(2,1),(3,1),(4,1)] [(.c (.str [114,101,97,100])),(.c (.str [119,114,105,116,101])),(.c (.str [97,100,100])),(.c (.str [116,97,107,101])),(.c (.str [101,114,97,115,101]))]),p_ 1 4 (m_ 0),p_ 2 5 (.mx false (.t 4) (.c (.int 1 (.ofNat 4)))),p_ 3 6 (.ixv false 5 1 (.t 3) (.t 5)),p_ 4 2 (m_ 6)]) .ret))
theorem UE:bh 91 UF:=⟨by kernel_rfl,by kernel_rfl⟩
def UD:XF:=.mk 6 (.one 2) (.seq (g_ 2 [e_ 0 1 (.box 124 (.t 0)),p_ 1 2 (.mv (.c (.bool false)))]) (.seq (g_ 4 [r_ 0 3 (.ld true 5 (.t 1)),c_ 1 4 95 [.t 3],p_ 2 5 (.un 0 (.t 4)),p_ 3 2 (m_ 5)]) .ret))
theorem UC:bh 94 UD:=⟨by kernel_rfl,by kernel_rfl⟩
def UB:XF:=.mk 26 (.one 4) (.seq (g_ 1 [p_ 0 4 (.mv (.c (.bool false)))]) (.seq (.seq (g_ 5 [p_ 0 6 (m_ 0),p_ 1 7 (k_ 6),p_ 2 8 (m_ 1),p_ 3 9 (k_ 8),p_ 4 10 (.bin 3 5 (.t 7) (.t 9))]) (.cond (.t 10) (.seq (g_ 1 [p_ 0 4 (.mv (.c (.bool false)))]) .ret) .skip)) (.seq (.seq (g_ 3 [p_ 0 11 (m_ 0),p_ 1 12 (k_ 11),p_ 2 13 (.mv (i_ 0))]) (.block 2 (.loop [0,1,4,5,12,13,14,15,16,17,18,19,20,21,22,23,24,25] (.seq (g_ 1 [p_ 0 14 (.bin 3 0 (.t 13) (.t 12))]) (.seq (.cond (.t 14) .skip (.exit 2)) (.seq (.block 3 (.seq (g_ 2 [p_ 0 15 (m_ 13),p_ 1 5 (m_ 15)]) (.seq (h_ 9 [p_ 0 16 (m_ 0),p_ 1 17 (m_ 5),p_ 2 18 (.ixs 5 (.t 16) (.t 17)),r_ 3 19 (.ld true 5 (.t 18)),p_ 4 20 (m_ 1),p_ 5 21 (m_ 5),p_ 6 22 (.ixs 5 (.t 20) (.t 21)),r_ 7 23 (.ld true 5 (.t 22)),p_ 8 24 (.eqs true 2 (.st [(0,1,false,.int),(1,1,false,.int),(2,1,false,.str),(3,1,false,.str),(4,1,false,.int)]) (.t 19) (.t 23))]) (.cond (.t 24) (.seq (g_ 1 [p_ 0 4 (.mv (.c (.bool false)))]) .ret) .skip)))) (g_ 2 [p_ 0 25 (.bin 0 0 (.t 13) (i_ 1)),p_ 1 13 (m_ 25)]))))))) (.seq (g_ 1 [p_ 0 4 (.mv (.c (.bool true)))]) .ret))))
theorem UA:bh 98 UB:=⟨by kernel_rfl,by kernel_rfl⟩
def Rm:XF:=.mk 39 (.one 2) (.seq (g_ 2 [e_ 0 1 (.box 124 (.t 0)),p_ 1 2 (.mv (.c (.bool false)))]) (.seq (.seq (g_ 2 [p_ 0 3 (f_ 1 1),r_ 1 4 (l_ 3)]) (.block 2 (.seq (.block 6 (.block 5 (.seq (.block 4 (.seq (.block 3 (.seq (.seq (.seq (g_ 2 [p_ 0 6 (.bin 3 4 (.t 4) (.c (.int 1 (.ofNat 1)))),p_ 1 5 (m_ 6)]) (.cond (.t 5) (.exit 3) .skip)) (.seq (.seq (.seq (g_ 2 [p_ 0 8 (.bin 3 4 (.t 4) (.c (.int 1 (.ofNat 2)))),p_ 1 7 (m_ 8)]) (.cond (.t 7) .skip (g_ 2 [p_ 0 9 (.bin 3 4 (.t 4) (.c (.int 1 (.ofNat 3)))),p_ 1 7 (m_ 9)]))) (.cond (.t 7) (.exit 4) .skip)) (.seq (.seq (g_ 2 [p_ 0 11 (.bin 3 4 (.t 4) (.c (.int 1 (.ofNat 0)))),p_ 1 10 (m_ 11)]) (.cond (.t 10) (.exit 5) .skip)) (.seq (g_ 2 [p_ 0 13 (.bin 3 4 (.t 4) (.c (.int 1 (.ofNat 4)))),p_ 1 12 (m_ 13)]) (.cond (.t 12) (.exit 6) .skip))))) (.exit 2))) (.seq (.seq (g_ 10 [p_ 0 14 (f_ 3 1),r_ 1 15 (l_ 14),p_ 2 16 (.len 0 (.t 15)),p_ 3 17 (.bin 3 1 (.t 16) (i_ 64)),p_ 4 18 (m_ 17),au 5 19 18 true (f_ 4 1),aY 6 20 18 true (l_ 19),au 7 21 18 true (.bin 3 4 (.t 20) (i_ 0)),p_ 8 22 (.pick (.t 18) (.t 21) (.c (.bool false))),p_ 9 2 (m_ 22)]) .ret) (.exit 2)))) (.seq (.seq (g_ 9 [p_ 0 23 (f_ 3 1),r_ 1 24 (l_ 23),p_ 2 25 (.bin 5 0 (.t 24) (.c (.str []))),p_ 3 26 (m_ 25),au 4 27 26 true (f_ 4 1),aY 5 28 26 true (l_ 27),au 6 29 26 true (.bin 3 3 (.t 28) (i_ 0)),p_ 7 30 (.pick (.t 26) (.t 29) (.c (.bool false))),p_ 8 2 (m_ 30)]) .ret) (.exit 2))))) (.seq (.seq (g_ 9 [p_ 0 31 (f_ 3 1),r_ 1 32 (l_ 31),p_ 2 33 (.bin 5 0 (.t 32) (.c (.str []))),p_ 3 34 (m_ 33),au 4 35 34 true (f_ 4 1),aY 5 36 34 true (l_ 35),au 6 37 34 true (.bin 3 4 (.t 36) (i_ 0)),p_ 7 38 (.pick (.t 34) (.t 37) (.c (.bool false))),p_ 8 2 (m_ 38)]) .ret) (.exit 2))))) (.seq (g_ 1 [p_ 0 2 (.mv (.c (.bool false)))]) .ret)))
theorem Sf:bh 112 Rm:=⟨by kernel_rfl,by kernel_rfl⟩
noncomputable def Nb (f:Nat):Option XF:=(Bool.rec (Bool.rec (Bool.rec (Bool.rec (Bool.rec (Bool.rec (Bool.rec none (some Rm) (Nat.beq f 112)) (Bool.rec none (some UB) (Nat.beq f 98)) (Nat.blt f 112)) (Bool.rec none (some UD) (Nat.beq f 94)) (Nat.blt f 98)) (Bool.rec (Bool.rec none (some UF) (Nat.beq f 91)) (Bool.rec none (some UH) (Nat.beq f 90)) (Nat.blt f 91)) (Nat.blt f 94)) (Bool.rec (Bool.rec (Bool.rec (Bool.rec none (some UJ) (Nat.beq f 85)) (Bool.rec none (some UL) (Nat.beq f 82)) (Nat.blt f 85)) (Bool.rec none (some UN) (Nat.beq f 77)) (Nat.blt f 82)) (Bool.rec (Bool.rec none (some UP) (Nat.beq f 73)) (Bool.rec none (some UR) (Nat.beq f 71)) (Nat.blt f 73)) (Nat.blt f 77)) (Nat.blt f 90)) (Bool.rec (Bool.rec (Bool.rec (Bool.rec (Bool.rec none (some UT) (Nat.beq f 70)) (Bool.rec none (some UV) (Nat.beq f 69)) (Nat.blt f 70)) (Bool.rec none (some UX) (Nat.beq f 68)) (Nat.blt f 69)) (Bool.rec (Bool.rec none (some UZ) (Nat.beq f 67)) (Bool.rec none (some Vb) (Nat.beq f 66)) (Nat.blt f 67)) (Nat.blt f 68)) (Bool.rec (Bool.rec (Bool.rec (Bool.rec none (some Vd) (Nat.beq f 63)) (Bool.rec none (some Vf) (Nat.beq f 62)) (Nat.blt f 63)) (Bool.rec none (some Vh) (Nat.beq f 61)) (Nat.blt f 62)) (Bool.rec (Bool.rec none (some Vj) (Nat.beq f 56)) (Bool.rec none (some Vl) (Nat.beq f 52)) (Nat.blt f 56)) (Nat.blt f 61)) (Nat.blt f 66)) (Nat.blt f 71)) (Bool.rec (Bool.rec (Bool.rec (Bool.rec (Bool.rec (Bool.rec none (some Vn) (Nat.beq f 51)) (Bool.rec none (some Vp) (Nat.beq f 43)) (Nat.blt f 51)) (Bool.rec none (some Vr) (Nat.beq f 40)) (Nat.blt f 43)) (Bool.rec (Bool.rec none (some Vt) (Nat.beq f 39)) (Bool.rec none (some Vv) (Nat.beq f 38)) (Nat.blt f 39)) (Nat.blt f 40)) (Bool.rec (Bool.rec (Bool.rec (Bool.rec none (some Vx) (Nat.beq f 37)) (Bool.rec none (some Vz) (Nat.beq f 36)) (Nat.blt f 37)) (Bool.rec none (some VB) (Nat.beq f 34)) (Nat.blt f 36)) (Bool.rec (Bool.rec none (some VD) (Nat.beq f 33)) (Bool.rec none (some VF) (Nat.beq f 32)) (Nat.blt f 33)) (Nat.blt f 34)) (Nat.blt f 38)) (Bool.rec (Bool.rec (Bool.rec (Bool.rec (Bool.rec none (some VH) (Nat.beq f 29)) (Bool.rec none (some VJ) (Nat.beq f 26)) (Nat.blt f 29)) (Bool.rec none (some VL) (Nat.beq f 24)) (Nat.blt f 26)) (Bool.rec (Bool.rec none (some VN) (Nat.beq f 22)) (Bool.rec none (some VP) (Nat.beq f 15)) (Nat.blt f 22)) (Nat.blt f 24)) (Bool.rec (Bool.rec (Bool.rec none (some VR) (Nat.beq f 13)) (Bool.rec none (some VT) (Nat.beq f 12)) (Nat.blt f 13)) (Bool.rec (Bool.rec none (some VV) (Nat.beq f 11)) (Bool.rec none (some VX) (Nat.beq f 10)) (Nat.blt f 11)) (Nat.blt f 12)) (Nat.blt f 15)) (Nat.blt f 32)) (Nat.blt f 52))
theorem bn {f n:Nat} {x y:XF} (hy:bh n y) (h:(Bool.rec (motive:=fun _=>Option XF) none (some y) (Nat.beq f n))=some x):bh f x:=by
 cases hb:Nat.beq f n with
 |false=>rw[hb]at h;cases h
 |true=>rw[hb]at h;cases h;rw[Nat.eq_of_beq_eq_true hb];exact hy
theorem br {f n:Nat} {a b:Option XF} {x:XF} (ha:a=some x→bh f x) (hb:b=some x→bh f x) (h:(Bool.rec (motive:=fun _=>Option XF) a b (Nat.blt f n))=some x):bh f x:=by
 cases hc:Nat.blt f n with
 |false=>rw[hc]at h;exact ha h
 |true=>rw[hc]at h;exact hb h
theorem Uz (f:Nat) (x:XF) (h:Nb f=some x):ci Tryz.prog f x=true∧plain (jW x)=true:=(br (br (br (br (br (br (bn Sf) (bn UA)) (bn UC)) (br (bn UE) (bn UG))) (br (br (br (bn UI) (bn UK)) (bn UM)) (br (bn UO) (bn UQ)))) (br (br (br (br (bn US) (bn UU)) (bn UW)) (br (bn UY) (bn Va))) (br (br (br (bn Vc) (bn Ve)) (bn Vg)) (br (bn Vi) (bn Vk))))) (br (br (br (br (br (bn Vm) (bn Vo)) (bn Vq)) (br (bn Vs) (bn Vu))) (br (br (br (bn Vw) (bn Vy)) (bn VA)) (br (bn VC) (bn VE)))) (br (br (br (br (bn VG) (bn VI)) (bn VK)) (br (bn VM) (bn VO))) (br (br (bn VQ) (bn VS)) (br (bn VU) (bn VW)))))) h
theorem bH:Tryz.prog.follows .mixedOrders=true:=by kernel_rfl
end Go.Proofs.Tryz
namespace Go.Proofs.Tryz
open Go.Proofs.YtacomabmhnodlaaGreatDoor (JV GV GT NN JU GR NM)
open Go Go.RowKit Go.Sy
open Go.Eng hiding ai
set_option maxRecDepth 1000000
set_option linter.unusedVariables false
set_option maxHeartbeats 4000000
theorem tb {P:Program} {f k:Nat}:bS P f k (fun _ _ _ _=>false):=fun us xs E ρ G F M nx w K R _ _ _ h=>by cases h
noncomputable def kO (b:List AV→T→Bool) (sA sB:co):co:=fun us M nx K=>Bool.rec (sB us M nx K) (sA us M nx K) (b us M)
theorem eM {P:Program} {f k:Nat} {sA sB:co} {b:List AV→T→Bool} (hA:bS P f k sA) (hB:bS P f k sB):bS P f k (kO b sA sB):=by
 intro us xs E ρ G F M nx w K R h1 h2 h3 h4
 have h4:(Bool.rec (motive:=fun _=>Bool) (sB us M nx K) (sA us M nx K) (b us M):Bool)=true:=h4
 cases hb:b us M with
 |true=>rw[hb]at h4;exact hA us xs E ρ G F M nx w K R h1 h2 h3 h4
 |false=>rw[hb]at h4;exact hB us xs E ρ G F M nx w K R h1 h2 h3 h4
abbrev KE:=AV→T→Nat→Bool
abbrev IE:=List AV×T×Nat
abbrev IL:=SL×T×Nat
noncomputable def ck {α:Type} (I:α→IE) (sp:α→KE→Bool):co:=fun us M nx K=>aN fun p:α=>ac (aC ((us,M,nx)=I p)) (sp p K)
theorem cM {P:Program} (hm:P.follows .mixedOrders=true) {cf:ii} (hcf:jf P cf) {lp:gO} {lf f k:Nat} {xf:XF} {α:Type} {I:α→IE} {sp:α→KE→Bool} (hf:ci P f xf=true) (hkp:fC k (jW xf)=true) (hlp:∀b j x,(b,j,x)∈eU (jW xf)→dR P (Zu xf) k lp b j x)
  (h:∀p K,sp p K=true→cw k cf lp lf xf (I p).1 (I p).2.1 (I p).2.2 K=true):bS P f k (ck I sp):=
 Ti hm hcf hf hkp hlp fun us M nx K hk=>by
  obtain⟨p,h1⟩:=bR hk
  obtain⟨e,h2⟩:=aa h1
  have h3:=h p K h2
  rw[←e]at h3
  exact h3
noncomputable def dP {α:Type} (pre:α→Prop) (out:α→KE→Bool) (p:α) (K:KE):Bool:=ac (aC (pre p)) (out p K)
noncomputable def bN (prev:Nat→List AV→Option ES) (k:Nat) (es:co) (g:Nat) (l:List (Nat×Nat)) (f:Nat) (vs:List AV):Option ES:=Bool.rec (prev f vs) (some (.mk k es)) (Ma f g vs l)
def aZ (P:Program) (nat:Nat→List AV→Option ES):Prop:=∀f vs k sp,nat f vs=some (.mk k sp)→bS P f k sp
theorem aR {P:Program} {prev:Nat→List AV→Option ES} {k g:Nat} {es:co} {l:List (Nat×Nat)} (h1:bS P g k es) (h2:aZ P prev):aZ P (bN prev k es g l):=fun f vs k' sp h=>Qc h1 (h2 f vs k' sp) h
noncomputable def Xj:Nat→List AV→Option ES:=fun _ _=>none
theorem Tk {P:Program}:aZ P Xj:=fun _ _ _ _ h=>by cases h
noncomputable def dC:gO:=fun _ _ _ _ _=>false
noncomputable def qI (k:Nat) (z:Int):Bool:=aC ((SY.int k z)= .int k z)
noncomputable def qS (l:List UInt8):Bool:=aC ((SY.str l)= .str l)
noncomputable def qY (x:SY):Bool:=aC (x=x)
noncomputable def qL (l:List Bool):Bool:=List.rec true (fun a _ r=>Bool.and a r) l
noncomputable def mP (p:Prop) (b:Bool):Bool:=ac (aC p) b
noncomputable def iP (p:Prop) (x y:Bool):Bool:=aS (aC p) x y
theorem mI {p:Prop} {b:Bool} (h:p) (k:b=true):mP p b=true:=bl h k
theorem fe {p:Prop} {b:Bool} (k:b=true) (h:p:=by simp only[bb];omega):mP p b=true:=bl h k
theorem bC {p:Prop} {b:Bool} (k:b=true) (h:p:=by first|omega|(constructor<;>omega)):mP p b=true:=bl h k
theorem ed {p:Prop} {b:Bool} (k:b=true) (h:p:=by omega):mP p b=true:=bl h k
theorem bi {p:Prop} {b:Bool} (k:b=true) (h:p:=by exact rfl):mP p b=true:=bl h k
theorem wI {p:Prop} {b:Bool} (k:b=true) (h:p:=by refine⟨?_,trivial⟩;repeat(first|exact trivial|refine⟨.inl rfl,?_⟩)):mP p b=true:=bl h k
abbrev aW:List UInt8:=([]:List Nat).map aaY
abbrev dU:List UInt8:=([99,104,101,99,107]:List Nat).map aaY
abbrev ng:List UInt8:=([101,114,97,115,101]:List Nat).map aaY
abbrev t_3:List UInt8:=([103,114,111,117,112,32,49,32,48,32,112,108,97,105,110,10]:List Nat).map aaY
abbrev t_4:List UInt8:=([99,108,105,101,110,116,115,32,49,10]:List Nat).map aaY
abbrev t_5:List UInt8:=([119,105,110,100,111,119,32,52,10]:List Nat).map aaY
abbrev t_6:List UInt8:=([100,101,97,100,108,105,110,101,32,50,48,48,10]:List Nat).map aaY
abbrev vk:List UInt8:=([115,112,111,105,108]:List Nat).map aaY
abbrev t_8:List UInt8:=([112,97,99,101,32,49,10]:List Nat).map aaY
abbrev vD:List UInt8:=([116,97,107,101]:List Nat).map aaY
abbrev t_10:List UInt8:=([97,103,97,105,110,32,53,10]:List Nat).map aaY
abbrev rZ:List UInt8:=([49]:List Nat).map aaY
abbrev rY:List UInt8:=([50]:List Nat).map aaY
abbrev rX:List UInt8:=([51]:List Nat).map aaY
abbrev rW:List UInt8:=([120]:List Nat).map aaY
abbrev t_15:List UInt8:=([98,97,103,32,53,48,48,10]:List Nat).map aaY
abbrev tG:List UInt8:=([32]:List Nat).map aaY
abbrev t_17:List UInt8:=([102,105,114,115,116,32,49,10]:List Nat).map aaY
abbrev t_18:List UInt8:=([10]:List Nat).map aaY
abbrev zn:List UInt8:=([97,100,100]:List Nat).map aaY
abbrev zm:List UInt8:=([112,108,97,105,110]:List Nat).map aaY
abbrev Cr:List UInt8:=([105]:List Nat).map aaY
abbrev FN:List UInt8:=([119,114,105,116,101]:List Nat).map aaY
abbrev La:List UInt8:=([114,101,97,100]:List Nat).map aaY
abbrev KZ:List UInt8:=([103,114,111,117,112]:List Nat).map aaY
abbrev KY:List UInt8:=([120,121]:List Nat).map aaY
theorem iI {p:Prop} {x y:Bool} (h:p→x=true) (k:¬p→y=true):iP p x y=true:=RH h k
noncomputable def aH {α β R:Type _} (s:β) (I:α→β) (pre:α→Prop) (po:α→R→Prop) (k:α→R→Bool):Bool:=aN fun p=>mP (s=I p) (mP (pre p) (ai fun r=>iP (po p r) (k p r) true))
theorem ay {α β R:Type _} {s:β} {I:α→β} {pre:α→Prop} {po:α→R→Prop} {k:α→R→Bool} (w:α) (h1:s=I w) (h2:pre w) (h3:∀r,po w r→k w r=true):aH s I pre po k=true:=
 bj w (bl h1 (bl h2 (am fun r=>RH (h3 r) fun _=>rfl)))
theorem cU {α R:Type} {e:α→Prop} {po:α→R→Prop} {k:α→R→Bool} (w:α) (h1:e w) (h3:∀r,po w r→k w r=true):(aN fun p=>mP (e p) (ai fun r=>iP (po p r) (k p r) true))=true:=
 bj w (bl h1 (am fun r=>RH (h3 r) fun _=>rfl))
theorem eX {α:Type} {e pre:α→Prop} {k:α→Bool} (w:α) (h1:e w) (h2:pre w) (h3:k w=true):(aN fun p=>mP (e p) (mP (pre p) (k p)))=true:=bj w (bl h1 (bl h2 h3))
noncomputable abbrev cj (nat:Nat→List AV→Option ES):ii:=Mk Nb nat dC 600 40
theorem aQ {nat:Nat→List AV→Option ES} (h:aZ Tryz.prog nat):jf Tryz.prog (cj nat):=Io (lp:=dC) (lf:=600) bH Uz h 40
theorem cJ {nat:Nat→List AV→Option ES} (hcf:jf Tryz.prog (cj nat)) {f k:Nat} {xf:XF} {α:Type} {I:α→IE} {pre:α→Prop} {out:α→KE→Bool} (hf:ci Tryz.prog f xf=true) (hkp:fC k (jW xf)=true) (hlp:eU (jW xf)=[])
  (h:∀p K,pre p→out p K=true→cw k (cj nat) dC 600 xf (I p).1 (I p).2.1 (I p).2.2 K=true):bS Tryz.prog f k (ck I (dP pre out)):=
 cM (lp:=dC) (lf:=600) bH hcf hf hkp (fun b j x h=>by rw[hlp]at h;cases h) fun p K hk=>h p K (aa hk).1 (aa hk).2
theorem nD {nat:Nat→List AV→Option ES} (hcf:jf Tryz.prog (cj nat)) {f k:Nat} {xf:XF} {α:Type} {I:α→IE} {out:α→KE→Bool} (hf:ci Tryz.prog f xf=true) (hkp:fC k (jW xf)=true) (hlp:eU (jW xf)=[])
  (h:∀p K,out p K=true→cw k (cj nat) dC 600 xf (I p).1 (I p).2.1 (I p).2.2 K=true):bS Tryz.prog f k (ck I out):=
 cM (lp:=dC) (lf:=600) bH hcf hf hkp (fun b j x h=>by rw[hlp]at h;cases h) h
structure aB where
 g:Int
 k:Int
 key:List UInt8
 val:List UInt8
 n:Int
structure aM where
 f:Int
 s:Int
 c:Prop
structure aI where
 kind:Int
 x:Int
 y:Int
 i:Int
 at_:Int
 mode:Int
 mask:Int
 grp:Int
 hp:Value
 ps:List aB
structure vA where
 hg:Value
 gs:List aM
 clients:Int
 window:Int
 deadline:Int
 pace:Int
 again:Int
 bag:Int
 first:Int
 ho:Value
 os:List aI
def aF (x:aB):List PL:=[.sint 1 x.g,.sint 1 x.k,.sstr x.key,.sstr x.val,.sint 0 x.n]
def aT (x:aM):List PL:=[.sint 0 x.f,.sint 0 x.s,.sbool x.c]
def aV (x:aI):List PL:=[.sint 0 x.kind,.sint 0 x.x,.sint 0 x.y,.sint 0 x.i,.sint 0 x.at_,.sint 0 x.mode,.sint 3 x.mask,.sint 1 x.grp,.imm x.hp 5 aB x.ps aF]
theorem tk {α:Type} {l:List α} {i:Nat} {x:α} (h:l[i]?=some x):l.take i++[x]=l.take (i+1):=by rw[List.take_add_one,h];rfl
def cx (x:aI):(Int×Int×Int×Int×Int×Int)×Int×Int×List aB:=((x.kind,x.x,x.y,x.i,x.at_,x.mode),x.mask,x.grp,x.ps)
def lP (x:vA):List aM×(Int×Int×Int×Int×Int×Int)×Int×List ((Int×Int×Int×Int×Int×Int)×Int×Int×List aB):=(x.gs,(x.clients,x.window,x.deadline,x.pace,x.again,x.bag),x.first,x.os.map cx)
def Gt (l:List aI):Prop:=l.length≤100000∧∀(j:Nat) (x:aI),l[j]?=some x→x.ps.length≤10
theorem rf {α β:Type} {k:α→β} {l m:List α} {i:Int} {x y:α} (h0:0≤i) (h:(l.take i.toNat).map k=(m.take i.toNat).map k) (hx:l[i.toNat]?=some x) (hy:m[i.toNat]?=some y) (e:k x=k y):(l.take (i+1).toNat).map k=(m.take (i+1).toNat).map k:=by
 rw[show(i+1).toNat=i.toNat+1 by omega,←tk hx,←tk hy,List.map_append,List.map_append,h,List.map_cons,List.map_cons,e]
theorem tF {α β:Type} {k:α→β} {l m:List α} {i:Int} (h:(l.take i.toNat).map k=(m.take i.toNat).map k) (h1:(l.length:Int)≤i) (h2:(m.length:Int)≤i):l.map k=m.map k:=by
 rwa[List.take_of_length_le (by omega),List.take_of_length_le (by omega)]at h
theorem Si {α β:Type} {k:α→β} {l m:List α} {i:Nat} {x y:α} (hx:l[i]?=some x) (hy:m[i]?=some y) (e:¬k x=k y):¬l.map k=m.map k:=fun h=>by
 have h1:(l.map k)[i]?=some (k x):=by simp[hx]
 rw[h]at h1
 simp[hy]at h1
 exact e h1.symm
noncomputable def Bq:=bN Xj 0 (Lf 0 Lib.itoa) 60 [(0,20)]
theorem EQ:aZ Tryz.prog Bq:=aR JV Tk
noncomputable def yN:=bN Bq 0 (Ct 0 100000000000000000000 Jw) 60 [(0,1)]
theorem CV:aZ Tryz.prog yN:=aR GV EQ
noncomputable def yL:=bN yN 0 (Ct 0 100 Jw) 107 [(0,1)]
theorem CT:aZ Tryz.prog yL:=aR GT CV
noncomputable def Ef:=bN yL 0 (Cu 0 10 Lib.itoa) 92 []
theorem GO:aZ Tryz.prog Ef:=aR NN CT
noncomputable def Bp:=bN Ef 0 AP 65 []
theorem EP:aZ Tryz.prog Bp:=aR JU GO
noncomputable def yK:=bN Bp 1 (xE [91]) 31 []
theorem CS:aZ Tryz.prog yK:=aR GR EP
noncomputable def wD:=bN yK 0 (Fe [91]) 35 []
theorem wC:aZ Tryz.prog wD:=aR NM CS
def HM:XF:=.mk 26 (.one 0) (.seq (g_ 1 [p_ 0 0 (.mv (.c (.bool false)))]) (.seq (g_ 5 [c_ 0 4 15 [i_ 1],p_ 1 5 (.bld [.nilS,.int 0 (.ofNat 0),.int 0 (.ofNat 0),.int 0 (.ofNat 0),.int 0 (.ofNat 0),.int 0 (.ofNat 0),.int 0 (.ofNat 0),.int 4 (.ofNat 0),.nilS] [(0,8)] [.t 4]),c_ 2 6 10 [.t 5],e_ 3 1 (.al 29 [.nilS,.int 0 (.ofNat 0),.int 0 (.ofNat 0),.int 0 (.ofNat 0),.int 0 (.ofNat 0),.int 0 (.ofNat 0),.int 0 (.ofNat 0),.int 4 (.ofNat 0),.nilS]),bd 4 (.st 9 (.t 1) (.t 6))]) (.seq (g_ 4 [p_ 0 7 (.bld [.int 0 (.ofNat 0),.int 0 (.ofNat 0),.int 0 (.ofNat 0),.int 0 (.ofNat 0),.int 0 (.ofNat 0),.int 0 (.ofNat 0),.int 3 (.ofNat 0),.int 1 (.ofNat 0),.nilS] [(0,1),(3,1),(4,1),(6,1)] [i_ 5,i_ 1,i_ 2,.c (.int 3 (.ofNat 3))]),e_ 1 8 (.bsl 54 9 1 [.int 0 (.ofNat 0),.int 0 (.ofNat 0),.int 0 (.ofNat 0),.int 0 (.ofNat 0),.int 0 (.ofNat 0),.int 0 (.ofNat 0),.int 3 (.ofNat 0),.int 1 (.ofNat 0),.nilS] [(0,9)] [.t 7]),p_ 2 9 (f_ 8 1),bd 3 (.st 1 (.t 9) (.t 8))]) (.seq (g_ 7 [r_ 0 11 (.ld true 9 (.t 1)),c_ 1 12 11 [.t 11],p_ 2 10 (m_ 12),p_ 3 13 (.ext 0 (.t 10)),p_ 4 14 (.ext 1 (.t 10)),p_ 5 2 (m_ 13),p_ 6 3 (m_ 14)]) (.seq (g_ 12 [p_ 0 15 (m_ 3),c_ 1 16 12 [.t 15],p_ 2 17 (.bin 3 4 (.t 16) (i_ 0)),p_ 3 18 (m_ 17),au 4 19 18 true (m_ 2),au 5 20 18 true (.bin 5 0 (.t 19) (.c (.str [103,114,111,117,112,32,49,32,48,32,112,108,97,105,110,10,99,108,105,101,110,116,115,32,49,10,119,105,110,100,111,119,32,52,10,100,101,97,100,108,105,110,101,32,50,48,48,10,112,97,99,101,32,49,10,97,103,97,105,110,32,53,10,98,97,103,32,53,48,48,10,102,105,114,115,116,32,49,10,115,112,111,105,108,32,49,32,50,32,51,10]))),p_ 6 21 (.pick (.t 18) (.t 20) (.c (.bool false))),p_ 7 22 (m_ 21),aY 8 23 22 true (.ld true 9 (.t 1)),il 9 24 22 true 13 [.t 23],p_ 10 25 (.pick (.t 22) (.t 24) (.c (.bool false))),p_ 11 0 (m_ 25)]) .ret)))))
theorem Jj:ci Tryz.prog 5 HM=true:=by kernel_rfl
abbrev pQ:=Unit
noncomputable def nL (p:pQ):IE:=([],.leaf,0)
noncomputable def DX (p:pQ) (K:KE):Bool:=K (.bool true) .leaf 0
theorem OV (p:pQ) (K:KE) (hK:DX p K=true):(cw 0 (cj wD) dC 600 HM (nL p).1 (nL p).2.1 (nL p).2.2 K)=true:=by
 refine Eq.trans (b:=(mP (bb 0 (1:Int)) (mP (bb 0 (0:Int)) (mP (([]:List UInt8).length+t_3.length≤140737488355328) (mP (bb 0 (1:Int)) (aN fun b1:List UInt8=>mP ((([]:List UInt8)++t_3).map dX=b1.map dX) (mP ((([]:List UInt8)++t_3).length=b1.length) (mP (b1.length+t_4.length≤140737488355328) (mP (bb 0 (4:Int)) (aN fun b2:List UInt8=>mP ((b1++t_4).map dX=b2.map dX) (mP ((b1++t_4).length=b2.length) (mP (b2.length+t_5.length≤140737488355328) (mP (bb 0 (200:Int)) (aN fun b3:List UInt8=>mP ((b2++t_5).map dX=b3.map dX) (mP ((b2++t_5).length=b3.length) (mP (b3.length+t_6.length≤140737488355328) (mP (bb 0 (1:Int)) (aN fun b4:List UInt8=>mP ((b3++t_6).map dX=b4.map dX) (mP ((b3++t_6).length=b4.length) (mP (b4.length+t_8.length≤140737488355328) (mP (bb 0 (5:Int)) (aN fun b5:List UInt8=>mP ((b4++t_8).map dX=b5.map dX) (mP ((b4++t_8).length=b5.length) (mP (b5.length+t_10.length≤140737488355328) (mP (bb 0 (500:Int)) (aN fun b6:List UInt8=>mP ((b5++t_10).map dX=b6.map dX) (mP ((b5++t_10).length=b6.length) (mP (b6.length+t_15.length≤140737488355328) (mP (bb 0 (1:Int)) (aN fun b7:List UInt8=>mP ((b6++t_15).map dX=b7.map dX) (mP ((b6++t_15).length=b7.length) (mP (b7.length+t_17.length≤140737488355328) (aN fun b8:List UInt8=>mP ((b7++t_17).map dX=b8.map dX) (mP ((b7++t_17).length=b8.length) (mP (b8≠[]) (mP (([]:List UInt8).length+b8.length≤140737488355328) (mP (bb 0 (1:Int)) (mP (bb 0 (2:Int)) (mP (bb 0 (3:Int)) (mP ((Lib.join [vk,rZ,rY,rX] tG).length≤140737488355328) (mP ([vk,rZ,rY,rX].length≤140737488355328) (mP ((Lib.join [vk,rZ,rY,rX] tG).length+t_18.length≤9223372036854775807) (aN fun b9:List UInt8=>mP ((([]:List UInt8)++b8).map dX=b9.map dX) (mP ((([]:List UInt8)++b8).length=b9.length) (mP (b9.length+((Lib.join [vk,rZ,rY,rX] tG)++t_18).length≤140737488355328) (iP ((65536:Int)<((b9++((Lib.join [vk,rZ,rY,rX] tG)++t_18)).length:Int)) (K (.bool false) .leaf 0) (aN fun b10:List UInt8=>mP ((b9++((Lib.join [vk,rZ,rY,rX] tG)++t_18)).map dX=b10.map dX) (mP ((b9++((Lib.join [vk,rZ,rY,rX] tG)++t_18)).length=b10.length) (mP (b10≠[]) (iP (b10=(([103,114,111,117,112,32,49,32,48,32,112,108,97,105,110,10,99,108,105,101,110,116,115,32,49,10,119,105,110,100,111,119,32,52,10,100,101,97,100,108,105,110,101,32,50,48,48,10,112,97,99,101,32,49,10,97,103,97,105,110,32,53,10,98,97,103,32,53,48,48,10,102,105,114,115,116,32,49,10,115,112,111,105,108,32,49,32,50,32,51,10]:List Nat).map aaY)) (K (.bool true) .leaf 0) (K (.bool false) .leaf 0))))))))))))))))))))))))))))))))))))))))))))))))))) (by kernel_rfl) ?_
 refine fe (fe (mI (by decide+kernel) (fe ?_)))
 refine bj (([]:List UInt8)++t_3) ?_
 refine bi (mI (by decide+kernel) (mI (by decide+kernel) (fe ?_)))
 refine bj ((([]:List UInt8)++t_3)++t_4) ?_
 refine bi (mI (by decide+kernel) (mI (by decide+kernel) (fe ?_)))
 refine bj (((([]:List UInt8)++t_3)++t_4)++t_5) ?_
 refine bi (mI (by decide+kernel) (mI (by decide+kernel) (fe ?_)))
 refine bj ((((([]:List UInt8)++t_3)++t_4)++t_5)++t_6) ?_
 refine bi (mI (by decide+kernel) (mI (by decide+kernel) (fe ?_)))
 refine bj (((((([]:List UInt8)++t_3)++t_4)++t_5)++t_6)++t_8) ?_
 refine bi (mI (by decide+kernel) (mI (by decide+kernel) (fe ?_)))
 refine bj ((((((([]:List UInt8)++t_3)++t_4)++t_5)++t_6)++t_8)++t_10) ?_
 refine bi (mI (by decide+kernel) (mI (by decide+kernel) (fe ?_)))
 refine bj (((((((([]:List UInt8)++t_3)++t_4)++t_5)++t_6)++t_8)++t_10)++t_15) ?_
 refine bi (mI (by decide+kernel) (mI (by decide+kernel) ?_))
 refine bj ((((((((([]:List UInt8)++t_3)++t_4)++t_5)++t_6)++t_8)++t_10)++t_15)++t_17) ?_
 refine bi (mI (by decide+kernel) (mI (by decide+kernel) (mI (by decide+kernel) (fe (fe (fe (mI (by decide+kernel) (mI (by decide+kernel) (mI (by decide+kernel) ?_)))))))))
 refine bj (([]:List UInt8)++((((((((([]:List UInt8)++t_3)++t_4)++t_5)++t_6)++t_8)++t_10)++t_15)++t_17)) ?_
 refine bi (mI (by decide+kernel) (mI (by decide+kernel) ?_))
 refine iI (p:=(65536:Int)<(((([]:List UInt8)++((((((((([]:List UInt8)++t_3)++t_4)++t_5)++t_6)++t_8)++t_10)++t_15)++t_17))++((Lib.join [vk,rZ,rY,rX] tG)++t_18)).length:Int)) (fun hc1=> ?_) (fun hc1=> ?_)
 exfalso;first|(revert hc1;decide+kernel)|(revert hc2;decide+kernel)|(revert hc3;decide+kernel)|(revert hc4;decide+kernel)|(revert hc5;decide+kernel)|(revert hc6;decide+kernel)|(revert hc7;decide+kernel)|(revert hc8;decide+kernel)|(revert hc9;decide+kernel)|(revert hc10;decide+kernel)|(revert hc11;decide+kernel)|(revert hc12;decide+kernel)|(revert hc13;decide+kernel)|(revert hc14;decide+kernel)|(revert hc15;decide+kernel)|(revert hc16;decide+kernel)|(revert hc17;decide+kernel)|(revert hc18;decide+kernel)|(revert hc19;decide+kernel)
 refine bj ((([]:List UInt8)++((((((((([]:List UInt8)++t_3)++t_4)++t_5)++t_6)++t_8)++t_10)++t_15)++t_17))++((Lib.join [vk,rZ,rY,rX] tG)++t_18)) ?_
 refine bi (mI (by decide+kernel) (mI (by decide+kernel) ?_))
 refine iI (p:=((([]:List UInt8)++((((((((([]:List UInt8)++t_3)++t_4)++t_5)++t_6)++t_8)++t_10)++t_15)++t_17))++((Lib.join [vk,rZ,rY,rX] tG)++t_18))=(([103,114,111,117,112,32,49,32,48,32,112,108,97,105,110,10,99,108,105,101,110,116,115,32,49,10,119,105,110,100,111,119,32,52,10,100,101,97,100,108,105,110,101,32,50,48,48,10,112,97,99,101,32,49,10,97,103,97,105,110,32,53,10,98,97,103,32,53,48,48,10,102,105,114,115,116,32,49,10,115,112,111,105,108,32,49,32,50,32,51,10]:List Nat).map aaY)) (fun hc2=> ?_) (fun hc2=> ?_)
 exact hK
 exfalso;first|(revert hc1;decide+kernel)|(revert hc2;decide+kernel)|(revert hc3;decide+kernel)|(revert hc4;decide+kernel)|(revert hc5;decide+kernel)|(revert hc6;decide+kernel)|(revert hc7;decide+kernel)|(revert hc8;decide+kernel)|(revert hc9;decide+kernel)|(revert hc10;decide+kernel)|(revert hc11;decide+kernel)|(revert hc12;decide+kernel)|(revert hc13;decide+kernel)|(revert hc14;decide+kernel)|(revert hc15;decide+kernel)|(revert hc16;decide+kernel)|(revert hc17;decide+kernel)|(revert hc18;decide+kernel)|(revert hc19;decide+kernel)
noncomputable def ru:=bN wD 0 (ck nL DX) 5 []
theorem qw:aZ Tryz.prog ru:=aR (nD (f:=5) (k:=0) (aQ wC) Jj (by rfl) (by rfl) OV) wC
end Go.Proofs.Tryz
namespace Go.Proofs.Tryz
open Go Go.RowKit Go.Sy
open Go.Eng hiding ai
set_option maxRecDepth 1000000
set_option linter.unusedVariables false
set_option maxHeartbeats 4000000
def sK:XC:=(.aft (.seq (g_ 1 [p_ 0 14 (.bin 3 0 (.t 13) (.t 12))]) (.seq (.cond (.t 14) .skip (.exit 2)) (.seq (.block 3 (.seq (g_ 2 [p_ 0 15 (m_ 13),p_ 1 5 (m_ 15)]) (.seq (h_ 9 [p_ 0 16 (m_ 0),p_ 1 17 (m_ 5),p_ 2 18 (.ixs 5 (.t 16) (.t 17)),r_ 3 19 (.ld true 5 (.t 18)),p_ 4 20 (m_ 1),p_ 5 21 (m_ 5),p_ 6 22 (.ixs 5 (.t 20) (.t 21)),r_ 7 23 (.ld true 5 (.t 22)),p_ 8 24 (.eqs true 2 (.st [(0,1,false,.int),(1,1,false,.int),(2,1,false,.str),(3,1,false,.str),(4,1,false,.int)]) (.t 19) (.t 23))]) (.cond (.t 24) (.seq (g_ 1 [p_ 0 4 (.mv (.c (.bool false)))]) .ret) .skip)))) (g_ 2 [p_ 0 25 (.bin 0 0 (.t 13) (i_ 1)),p_ 1 13 (m_ 25)])))) [(0,[.can 0 [0,1,12,13]]),(1,[.can 0 [4]]),(2,[.can 0 []])])
def Ey:XF:=.mk 26 (.one 4) (.aft (.seq (g_ 1 [p_ 0 4 (.mv (.c (.bool false)))]) (.seq (.seq (g_ 5 [p_ 0 6 (m_ 0),p_ 1 7 (k_ 6),p_ 2 8 (m_ 1),p_ 3 9 (k_ 8),p_ 4 10 (.bin 3 5 (.t 7) (.t 9))]) (.cond (.t 10) (.seq (g_ 1 [p_ 0 4 (.mv (.c (.bool false)))]) .ret) .skip)) (.seq (.seq (g_ 3 [p_ 0 11 (m_ 0),p_ 1 12 (k_ 11),p_ 2 13 (.mv (i_ 0))]) (.block 2 (.pre [.can 0 [0,1,12,13],.up 12,.up 13,.can 0 [0,1,12,13]] (.inv 0 sK)))) (.seq (g_ 1 [p_ 0 4 (.mv (.c (.bool true)))]) .ret)))) [(0,[.up 4]),(1,[.up 4])])
theorem HP:ci Tryz.prog 98 Ey=true:=by kernel_rfl
structure dF where
 h1:Value
 l1:List aB
 h2:Value
 l2:List aB
 i:Int
def yH (p:dF):Prop:=p.l1=p.l2
def vL (p:dF):Prop:=¬p.l1=p.l2
noncomputable def fG (p:dF):IL:=((.cons 13 (.sy (.int 0 p.i)) (.cons 12 (.sy (.int 0 (p.l1.length:Int))) (.cons 1 (.sy (.imm p.h2 5 aB p.l2 aF)) (.cons 0 (.sy (.imm p.h1 5 aB p.l1 aF)) .nil)))),.leaf,0)
noncomputable def qf (p:dF) (K:KC):Bool:=ac (iP (yH p) (K 2 .nil .leaf 0) true) (iP (vL p) (K 1 (.cons 4 (.bool false) .nil) .leaf 0) true)
def fZ (p:dF):Prop:=p.l1.length=p.l2.length∧0≤p.i∧p.i≤(p.l1.length:Int)∧p.l1.length≤1000000∧(p.l1.take p.i.toNat).map id=(p.l2.take p.i.toNat).map id
noncomputable def nU (p:dF) (K:KC):Bool:=ac (aC (fZ p)) (qf p K)
noncomputable def rD:gO:=fun j S M nx K=>(Bool.rec (false) (aN fun p:dF=>ac (aC ((S,M,nx)=fG p)) (nU p K)) (Nat.beq j 0))
def eT (p:dF):Nat:=((p.l1.length:Int) - p.i).toNat
noncomputable def zb (s:IL) (n:Nat) (K:KC):Bool:=aN fun q=>mP (s=fG q∧eT q<n) (nU q K)
theorem Jt {p q:dF} {K:KC} {s:IL} (hm:eT q<eT p:=by dsimp only[eT]<;>(omega)) (hp:fZ q:=by dsimp only[fZ]<;>(refine⟨g0,by omega,by omega,g3,rf (by omega) g4 hi2 hi3 ?_⟩;show x1=x2;obtain⟨⟩:=x1;obtain⟨⟩:=x2;simp_all)) (hK:qf q K=true:=by exact hK) (e:s=fG q:=by rfl):zb s (eT p) K=true:=bj q (bl ⟨e,hm⟩ (bl hp hK))
theorem IS (p:dF) (K:KC) (hpre:fZ p) (hK:qf p K=true):(df (cj ru) rD 600 sK (fG p).1 (fG p).2.1 (fG p).2.2 (fun e S M nx=>Nat.casesOn e (aN fun q:dF=>ac (aC ((S,M,nx)=fG q∧eT q<eT p)) (nU q K)) (fun e2=>K (Nat.succ e2) S M nx)))=true:=by
 refine Eq.trans (b:=(let z0:Bool:=(K 1 (.cons 4 (.bool false) .nil) .leaf 0);iP (p.i<(p.l1.length:Int)) (mP (0≤p.i∧p.i<(p.l1.length:Int)) (ai fun x1:aB=>iP (p.l1[p.i.toNat]?=some x1) (mP (0≤p.i∧p.i<(p.l2.length:Int)) (ai fun x2:aB=>iP (p.l2[p.i.toNat]?=some x2) (iP (x1.g=x2.g) (iP (x1.k=x2.k) (iP (x1.key=x2.key) (iP (x1.val=x2.val) (iP (x1.n=x2.n) (mP (bb 0 (p.i+(1:Int))) (zb ((.cons 13 (.sy (.int 0 (p.i+(1:Int)))) (.cons 12 (.sy (.int 0 (p.l1.length:Int))) (.cons 1 (.sy (.imm p.h2 5 aB p.l2 aF)) (.cons 0 (.sy (.imm p.h1 5 aB p.l1 aF)) .nil)))),.leaf,0) (eT p) K)) z0) z0) z0) z0) z0) true)) true)) (K 2 .nil .leaf 0))) (by kernel_rfl) ?_
 obtain⟨hK0,hKr0⟩:=aj hK
 have hK1:=hKr0
 dsimp only[fZ]at hpre
 obtain⟨g0,g1,g2,g3,g4⟩:=hpre
 refine iI (fun hc1=> ?_) (fun hc1=> ?_)
 refine bC ?_
 refine am (fun x1=> ?_)
 refine iI (fun hi2=> ?_) (fun _=>rfl)
 refine bC ?_
 refine am (fun x2=> ?_)
 refine iI (fun hi3=> ?_) (fun _=>rfl)
 refine iI (fun hc4=> ?_) (fun hc4=> ?_)
 refine iI (fun hc5=> ?_) (fun hc5=> ?_)
 refine iI (fun hc6=> ?_) (fun hc6=> ?_)
 refine iI (fun hc7=> ?_) (fun hc7=> ?_)
 refine iI (fun hc8=> ?_) (fun hc8=> ?_)
 refine fe ?_
 exact Jt (q:=⟨p.h1,p.l1,p.h2,p.l2,p.i+(1:Int)⟩)
 exact aq (show¬p.l1=p.l2 from(by intro e;rw[e]at hi2;have e2:=aaZ (hi2.symm.trans hi3);subst e2;first|contradiction|omega|simp_all)) hK1
 exact aq (show¬p.l1=p.l2 from(by intro e;rw[e]at hi2;have e2:=aaZ (hi2.symm.trans hi3);subst e2;first|contradiction|omega|simp_all)) hK1
 exact aq (show¬p.l1=p.l2 from(by intro e;rw[e]at hi2;have e2:=aaZ (hi2.symm.trans hi3);subst e2;first|contradiction|omega|simp_all)) hK1
 exact aq (show¬p.l1=p.l2 from(by intro e;rw[e]at hi2;have e2:=aaZ (hi2.symm.trans hi3);subst e2;first|contradiction|omega|simp_all)) hK1
 exact aq (show¬p.l1=p.l2 from(by intro e;rw[e]at hi2;have e2:=aaZ (hi2.symm.trans hi3);subst e2;first|contradiction|omega|simp_all)) hK1
 exact aq (show p.l1=p.l2 from(by have e:=tF g4 (by omega) (by omega);simpa using e)) hK0
theorem Ja:dR Tryz.prog 26 0 rD true 0 sK:=by
 exact gm (lf:=600) bH (aQ qw) (by rfl) fG eT nU (fun b j x h=>by cases h) (fun S M nx K h=>by obtain⟨p,h⟩:=bR h;exact⟨p,(aa h).1,(aa h).2⟩) (fun p K h=>IS p K (aa h).1 (aa h).2)
structure lN where
 h1:Value
 l1:List aB
 h2:Value
 l2:List aB
structure AI where
 q:Prop
def jM (p:lN) (r:AI):Prop:=r.q↔p.l1=p.l2
noncomputable def qX (p:lN):IE:=([.sy (.imm p.h1 5 aB p.l1 aF),.sy (.imm p.h2 5 aB p.l2 aF)],.leaf,0)
noncomputable def uq (p:lN) (K:KE):Bool:=ai fun r:AI=>iP (jM p r) (K (.sy (.bool r.q)) .leaf 0) true
def mH (p:lN):Prop:=p.l1.length≤1000000∧p.l2.length≤1000000
theorem uV {p:lN} {K:KE} (hK:uq p K=true) (r:AI) (h:jM p r):K (.sy (.bool r.q)) .leaf 0=true:=aq h (az hK r)
theorem MT (p:lN) (K:KE) (hpre:mH p) (hK:uq p K=true):(cw 0 (cj ru) rD 600 Ey (qX p).1 (qX p).2.1 (qX p).2.2 K)=true:=by
 refine Eq.trans (b:=(iP (¬(p.l1.length:Int)=(p.l2.length:Int)) (K (.sy (.bool (false=true))) .leaf 0) (aN fun p1:dF=>mP (((.cons 13 (.sy (.int 0 0)) (.cons 12 (.sy (.int 0 (p.l1.length:Int))) (.cons 1 (.sy (.imm p.h2 5 aB p.l2 aF)) (.cons 0 (.sy (.imm p.h1 5 aB p.l1 aF)) .nil)))),.leaf,0)=fG p1) (mP (fZ p1) (ac (iP (yH p1) (K (.sy (.bool (true=true))) .leaf 0) true) (iP (vL p1) (K (.sy (.bool (false=true))) .leaf 0) true)))))) (by kernel_rfl) ?_
 dsimp only[mH]at hpre
 obtain⟨u1,u2⟩:=hpre
 refine iI (fun hc1=> ?_) (fun hc1=> ?_)
 exact uV hK ⟨false=true⟩ (by dsimp only[jM]<;>(first|(simp;done)|(simp;assumption)|(simp;intro e;exact hc1 (by rw[e]))|simp_all))
 refine eX (⟨p.h1,p.l1,p.h2,p.l2,(0:Int)⟩:dF) rfl (by(try dsimp only[fZ]);refine⟨by omega,by omega,by omega,by omega,rfl⟩) ?_
 refine aE ?_ ?_
 refine iI (p:=p.l1=p.l2) (fun hi2=> ?_) (fun _=>rfl)
 exact uV hK ⟨true=true⟩ (by dsimp only[jM]<;>(first|(simp;done)|(simp;assumption)|(simp;intro e;exact hc1 (by rw[e]))|simp_all))
 refine iI (p:=¬p.l1=p.l2) (fun hi3=> ?_) (fun _=>rfl)
 exact uV hK ⟨false=true⟩ (by dsimp only[jM]<;>(first|(simp;done)|(simp;assumption)|(simp;intro e;exact hc1 (by rw[e]))|simp_all))
noncomputable def pj:=bN ru 0 (ck qX (dP mH uq)) 98 [(0,23),(1,23)]
theorem oS:aZ Tryz.prog pj:=aR (cM (f:=98) (k:=0) (lp:=rD) (lf:=600) bH (aQ qw) HP (by rfl) (fun b j x h=>(cG Ja (fun h=>(by cases h)) h)) fun p K h=>MT p K (aa h).1 (aa h).2) qw
def uZ:XC:=(.aft (.seq (.seq (g_ 4 [p_ 0 11 (m_ 5),p_ 1 12 (m_ 0),p_ 2 13 (k_ 12),p_ 3 14 (.bin 3 0 (.t 11) (.t 13))]) (.cond (.t 14) .skip (.exit 2))) (.seq (.block 3 (.seq (h_ 9 [p_ 0 17 (m_ 0),p_ 1 18 (m_ 5),p_ 2 19 (.ixs 5 (.t 17) (.t 18)),r_ 3 20 (.ld true 5 (.t 19)),p_ 4 21 (m_ 1),p_ 5 22 (m_ 5),p_ 6 23 (.ixs 5 (.t 21) (.t 22)),r_ 7 24 (.ld true 5 (.t 23)),p_ 8 25 (.eqs true 2 (.st [(0,1,false,.int),(1,1,false,.int),(2,1,false,.str),(3,1,false,.str),(4,1,false,.int)]) (.t 20) (.t 24))]) (.cond (.t 25) (.seq (g_ 1 [p_ 0 4 (.mv (.c (.bool false)))]) .ret) .skip))) (g_ 3 [p_ 0 15 (m_ 5),p_ 1 16 (.bin 0 0 (.t 15) (i_ 1)),p_ 2 5 (m_ 16)]))) [(0,[.can 0 [0,1,5]]),(1,[.can 0 [4]]),(2,[.can 0 []])])
def Hy:XF:=.mk 26 (.one 4) (.aft (.seq (g_ 1 [p_ 0 4 (.mv (.c (.bool false)))]) (.seq (.seq (g_ 5 [p_ 0 6 (m_ 0),p_ 1 7 (k_ 6),p_ 2 8 (m_ 1),p_ 3 9 (k_ 8),p_ 4 10 (.bin 3 5 (.t 7) (.t 9))]) (.cond (.t 10) (.seq (g_ 1 [p_ 0 4 (.mv (.c (.bool false)))]) .ret) .skip)) (.seq (.seq (g_ 1 [p_ 0 5 (.mv (i_ 0))]) (.block 2 (.pre [.can 0 [0,1,5],.up 5,.can 0 [0,1,5]] (.inv 0 uZ)))) (.seq (g_ 1 [p_ 0 4 (.mv (.c (.bool true)))]) .ret)))) [(0,[.up 4]),(1,[.up 4])])
theorem Jc:ci Tryz.prog 55 Hy=true:=by kernel_rfl
structure eh where
 h1:Value
 l1:List aB
 h2:Value
 l2:List aB
 i:Int
def AY (p:eh):Prop:=p.l1=p.l2
def yD (p:eh):Prop:=¬p.l1=p.l2
noncomputable def gR (p:eh):IL:=((.cons 5 (.sy (.int 0 p.i)) (.cons 1 (.sy (.imm p.h2 5 aB p.l2 aF)) (.cons 0 (.sy (.imm p.h1 5 aB p.l1 aF)) .nil))),.leaf,0)
noncomputable def sn (p:eh) (K:KC):Bool:=ac (iP (AY p) (K 2 .nil .leaf 0) true) (iP (yD p) (K 1 (.cons 4 (.bool false) .nil) .leaf 0) true)
def gW (p:eh):Prop:=p.l1.length=p.l2.length∧0≤p.i∧p.i≤(p.l1.length:Int)∧p.l1.length≤1000000∧(p.l1.take p.i.toNat).map id=(p.l2.take p.i.toNat).map id
noncomputable def pb (p:eh) (K:KC):Bool:=ac (aC (gW p)) (sn p K)
noncomputable def uK:gO:=fun j S M nx K=>(Bool.rec (false) (aN fun p:eh=>ac (aC ((S,M,nx)=gR p)) (pb p K)) (Nat.beq j 0))
def fx (p:eh):Nat:=((p.l1.length:Int) - p.i).toNat
noncomputable def BW (s:IL) (n:Nat) (K:KC):Bool:=aN fun q=>mP (s=gR q∧fx q<n) (pb q K)
theorem Mr {p q:eh} {K:KC} {s:IL} (hm:fx q<fx p:=by dsimp only[fx]<;>(omega)) (hp:gW q:=by dsimp only[gW]<;>(refine⟨g0,by omega,by omega,g3,rf (by omega) g4 hi2 hi3 ?_⟩;show x1=x2;obtain⟨⟩:=x1;obtain⟨⟩:=x2;simp_all)) (hK:sn q K=true:=by exact hK) (e:s=gR q:=by rfl):BW s (fx p) K=true:=bj q (bl ⟨e,hm⟩ (bl hp hK))
theorem KQ (p:eh) (K:KC) (hpre:gW p) (hK:sn p K=true):(df (cj pj) uK 600 uZ (gR p).1 (gR p).2.1 (gR p).2.2 (fun e S M nx=>Nat.casesOn e (aN fun q:eh=>ac (aC ((S,M,nx)=gR q∧fx q<fx p)) (pb q K)) (fun e2=>K (Nat.succ e2) S M nx)))=true:=by
 refine Eq.trans (b:=(let z0:Bool:=(K 1 (.cons 4 (.bool false) .nil) .leaf 0);iP (p.i<(p.l1.length:Int)) (mP (0≤p.i∧p.i<(p.l1.length:Int)) (ai fun x1:aB=>iP (p.l1[p.i.toNat]?=some x1) (mP (0≤p.i∧p.i<(p.l2.length:Int)) (ai fun x2:aB=>iP (p.l2[p.i.toNat]?=some x2) (iP (x1.g=x2.g) (iP (x1.k=x2.k) (iP (x1.key=x2.key) (iP (x1.val=x2.val) (iP (x1.n=x2.n) (mP (bb 0 (p.i+(1:Int))) (BW ((.cons 5 (.sy (.int 0 (p.i+(1:Int)))) (.cons 1 (.sy (.imm p.h2 5 aB p.l2 aF)) (.cons 0 (.sy (.imm p.h1 5 aB p.l1 aF)) .nil))),.leaf,0) (fx p) K)) z0) z0) z0) z0) z0) true)) true)) (K 2 .nil .leaf 0))) (by kernel_rfl) ?_
 obtain⟨hK0,hKr0⟩:=aj hK
 have hK1:=hKr0
 dsimp only[gW]at hpre
 obtain⟨g0,g1,g2,g3,g4⟩:=hpre
 refine iI (fun hc1=> ?_) (fun hc1=> ?_)
 refine bC ?_
 refine am (fun x1=> ?_)
 refine iI (fun hi2=> ?_) (fun _=>rfl)
 refine bC ?_
 refine am (fun x2=> ?_)
 refine iI (fun hi3=> ?_) (fun _=>rfl)
 refine iI (fun hc4=> ?_) (fun hc4=> ?_)
 refine iI (fun hc5=> ?_) (fun hc5=> ?_)
 refine iI (fun hc6=> ?_) (fun hc6=> ?_)
 refine iI (fun hc7=> ?_) (fun hc7=> ?_)
 refine iI (fun hc8=> ?_) (fun hc8=> ?_)
 refine fe ?_
 exact Mr (q:=⟨p.h1,p.l1,p.h2,p.l2,p.i+(1:Int)⟩)
 exact aq (show¬p.l1=p.l2 from(by intro e;rw[e]at hi2;have e2:=aaZ (hi2.symm.trans hi3);subst e2;first|contradiction|omega|simp_all)) hK1
 exact aq (show¬p.l1=p.l2 from(by intro e;rw[e]at hi2;have e2:=aaZ (hi2.symm.trans hi3);subst e2;first|contradiction|omega|simp_all)) hK1
 exact aq (show¬p.l1=p.l2 from(by intro e;rw[e]at hi2;have e2:=aaZ (hi2.symm.trans hi3);subst e2;first|contradiction|omega|simp_all)) hK1
 exact aq (show¬p.l1=p.l2 from(by intro e;rw[e]at hi2;have e2:=aaZ (hi2.symm.trans hi3);subst e2;first|contradiction|omega|simp_all)) hK1
 exact aq (show¬p.l1=p.l2 from(by intro e;rw[e]at hi2;have e2:=aaZ (hi2.symm.trans hi3);subst e2;first|contradiction|omega|simp_all)) hK1
 exact aq (show p.l1=p.l2 from(by have e:=tF g4 (by omega) (by omega);simpa using e)) hK0
theorem LR:dR Tryz.prog 26 0 uK true 0 uZ:=by
 exact gm (lf:=600) bH (aQ oS) (by rfl) gR fx pb (fun b j x h=>by cases h) (fun S M nx K h=>by obtain⟨p,h⟩:=bR h;exact⟨p,(aa h).1,(aa h).2⟩) (fun p K h=>KQ p K (aa h).1 (aa h).2)
structure mj where
 h1:Value
 l1:List aB
 h2:Value
 l2:List aB
structure Dx where
 q:Prop
def iK (p:mj) (r:Dx):Prop:=r.q↔p.l1=p.l2
noncomputable def pL (p:mj):IE:=([.sy (.imm p.h1 5 aB p.l1 aF),.sy (.imm p.h2 5 aB p.l2 aF)],.leaf,0)
noncomputable def vP (p:mj) (K:KE):Bool:=ai fun r:Dx=>iP (iK p r) (K (.sy (.bool r.q)) .leaf 0) true
def jw (p:mj):Prop:=p.l1.length≤1000000∧p.l2.length≤1000000
theorem wV {p:mj} {K:KE} (hK:vP p K=true) (r:Dx) (h:iK p r):K (.sy (.bool r.q)) .leaf 0=true:=aq h (az hK r)
theorem OM (p:mj) (K:KE) (hpre:jw p) (hK:vP p K=true):(cw 0 (cj pj) uK 600 Hy (pL p).1 (pL p).2.1 (pL p).2.2 K)=true:=by
 refine Eq.trans (b:=(iP (¬(p.l1.length:Int)=(p.l2.length:Int)) (K (.sy (.bool (false=true))) .leaf 0) (aN fun p1:eh=>mP (((.cons 5 (.sy (.int 0 0)) (.cons 1 (.sy (.imm p.h2 5 aB p.l2 aF)) (.cons 0 (.sy (.imm p.h1 5 aB p.l1 aF)) .nil))),.leaf,0)=gR p1) (mP (gW p1) (ac (iP (AY p1) (K (.sy (.bool (true=true))) .leaf 0) true) (iP (yD p1) (K (.sy (.bool (false=true))) .leaf 0) true)))))) (by kernel_rfl) ?_
 dsimp only[jw]at hpre
 obtain⟨u1,u2⟩:=hpre
 refine iI (fun hc1=> ?_) (fun hc1=> ?_)
 exact wV hK ⟨false=true⟩ (by dsimp only[iK]<;>(first|(simp;done)|(simp;assumption)|(simp;intro e;exact hc1 (by rw[e]))|simp_all))
 refine eX (⟨p.h1,p.l1,p.h2,p.l2,(0:Int)⟩:eh) rfl (by(try dsimp only[gW]);refine⟨by omega,by omega,by omega,by omega,rfl⟩) ?_
 refine aE ?_ ?_
 refine iI (p:=p.l1=p.l2) (fun hi2=> ?_) (fun _=>rfl)
 exact wV hK ⟨true=true⟩ (by dsimp only[iK]<;>(first|(simp;done)|(simp;assumption)|(simp;intro e;exact hc1 (by rw[e]))|simp_all))
 refine iI (p:=¬p.l1=p.l2) (fun hi3=> ?_) (fun _=>rfl)
 exact wV hK ⟨false=true⟩ (by dsimp only[iK]<;>(first|(simp;done)|(simp;assumption)|(simp;intro e;exact hc1 (by rw[e]))|simp_all))
noncomputable def Ed:=bN pj 0 (ck pL (dP jw vP)) 55 [(0,23),(1,23)]
theorem GL:aZ Tryz.prog Ed:=aR (cM (f:=55) (k:=0) (lp:=uK) (lf:=600) bH (aQ oS) Jc (by rfl) (fun b j x h=>(cG LR (fun h=>(by cases h)) h)) fun p K h=>OM p K (aa h).1 (aa h).2) oS
end Go.Proofs.Tryz
namespace Go.Proofs.Tryz
open Go.Proofs.YtacomabmhnodlaaGreatDoor (oA lT nV)
open Go Go.RowKit Go.Sy
open Go.Eng hiding ai
set_option maxRecDepth 1000000
set_option linter.unusedVariables false
set_option maxHeartbeats 4000000
def mM (s:List UInt8):Prop:=s≠[]∧∀b∈s,Lib.okc b.toNat=true
def wk (x:Nat):Prop:=(97≤x∧x≤122)∨(48≤x∧x≤57)
theorem CK (x:Nat):Lib.okc x=true↔wk x:=by
 have h:=Go.Proofs.YtacomabmhnodlaaGreatDoor.odd_iff x
 unfold Lib.oddB at h
 unfold wk
 cases hc:Lib.okc x
 ·rw[hc]at h;simp at h ⊢;omega
 ·rw[hc]at h;simp at h ⊢;omega
def Fh (s:List UInt8) (i:Int):Prop:=∀j:Nat,(j:Int)<i→j<s.length→wk (s.getD j 0).toNat
theorem LF {s:List UInt8} {i:Int} (h:Fh s i) (h0:0≤i) (h1:wk (s.getD i.toNat 0).toNat):Fh s (i+1):=fun j hj hl=>by
 by_cases e:(j:Int)=i
 ·have:j=i.toNat:=by omega
  subst this;exact h1
 ·exact h j (by omega) hl
theorem NB {s:List UInt8} {i:Int} (h:Fh s i) (h1:(s.length:Int)≤i):∀b∈s,Lib.okc b.toNat=true:=fun b hb=>by
 obtain⟨j,hj⟩:=List.mem_iff_getElem?.1 hb
 obtain⟨h2,h3⟩:=List.getElem?_eq_some_iff.1 hj
 rw[CK]
 have:=h j (by omega) h2
 simpa[List.getD,hj] using this
theorem Fg {s:List UInt8} {i:Nat} (h:∀b∈s,Lib.okc b.toNat=true) (h1:i<s.length):wk (s.getD i 0).toNat:=by
 have:=(CK _).1 (h s[i] (List.getElem_mem h1))
 simpa[List.getD,h1] using this
def bq (p:aB):Prop:=p.g<4∧p.key≠[]∧p.key.length≤16∧((p.k=1∧p.val.length≤64∧p.n=0)∨((p.k=2∨p.k=3)∧p.val=[]∧0≤p.n)∨((p.k=0∨p.k=4)∧p.val=[]∧p.n=0))
theorem DV {p:aB} (h:bq p):p.key.length≤16∧p.val.length≤64:=by
 obtain⟨_,_,h1,h2⟩:=h
 refine⟨h1,?_⟩
 rcases h2 with⟨_,h2,_⟩|⟨_,h2,_⟩|⟨_,h2,_⟩
 ·exact h2
 ·rw[h2];simp
 ·rw[h2];simp
def bA (p:aB):Prop:=bq p∧mM p.key∧(p.k=1→mM p.val)
def sR (p:aB):Prop:=(0≤p.g∧p.g≤255)∧(0≤p.k∧p.k≤255)∧ -9223372036854775808≤p.n∧p.n≤9223372036854775807
theorem vb {α:Type} {R:α→Prop} {l:List α} {i:Int} {x:α} (h:∀(j:Nat) y,(j:Int)<i→l[j]?=some y→R y) (h0:0≤i) (hx:l[i.toNat]?=some x) (h1:R x):∀(j:Nat) y,(j:Int)<i+1→l[j]?=some y→R y:=fun j y hj hy=>by
 by_cases e:(j:Int)=i
 ·have:j=i.toNat:=by omega
  subst this
  rw[hx]at hy;cases hy;exact h1
 ·exact h j y (by omega) hy
theorem tv {α:Type} {R:α→Prop} {l:List α} {i:Int} (h:∀(j:Nat) y,(j:Int)<i→l[j]?=some y→R y) (h1:(l.length:Int)≤i):∀x∈l,R x:=fun x hx=>by
 obtain⟨j,hj⟩:=List.mem_iff_getElem?.1 hx
 exact h j x (by have:=(List.getElem?_eq_some_iff.1 hj).1;omega) hj
theorem Cb {α:Type} {R:α→Prop} {l:List α} {i:Nat} {x:α} (hx:l[i]?=some x) (h:¬R x):¬∀x∈l,R x:=fun q=>h (q x (aaG hx))
noncomputable def ZK (us:List AV) (i f:Nat):Bool:=match ez us i with
 |some (.fn g [])=>Nat.beq g f
 |_=>false
noncomputable def Ee:=bN Ed 0 (nV 113) 114 []
theorem GN:aZ Tryz.prog Ee:=aR oA GL
noncomputable def uH:=bN Ee 0 (Cu 4 10 Lib.itoa) 90 []
theorem vv:aZ Tryz.prog uH:=aR lT GN
def HG:XF:=.mk 12 (.one 2) (.aft (.seq (g_ 1 [p_ 0 2 (.mv (.c (.bool false)))]) (.seq (g_ 1 [p_ 0 3 (.mv (.f 113))]) (.seq (g_ 9 [p_ 0 4 (m_ 0),p_ 1 5 (.bin 5 1 (.t 4) (.c (.str []))),p_ 2 6 (m_ 5),au 3 7 6 true (m_ 0),au 4 8 6 true (m_ 3),il 5 9 6 true 114 [.t 7,.t 8],au 6 10 6 true (.bin 3 0 (.t 9) (i_ 0)),p_ 7 11 (.pick (.t 6) (.t 10) (.c (.bool false))),p_ 8 2 (m_ 11)]) .ret))) [(0,[.up 2]),(1,[.up 2])])
theorem Jf:ci Tryz.prog 97 HG=true:=by kernel_rfl
structure kM where
 s:List UInt8
structure tw where
 q:Prop
def jL (p:kM) (r:tw):Prop:=r.q↔mM p.s
noncomputable def pN (p:kM):IE:=([.sy (.str p.s)],.leaf,0)
noncomputable def vS (p:kM) (K:KE):Bool:=ai fun r:tw=>iP (jL p r) (K (.sy (.bool r.q)) .leaf 0) true
theorem EA {p:kM} {K:KE} (hK:vS p K=true) (r:tw) (h:jL p r):K (.sy (.bool r.q)) .leaf 0=true:=aq h (az hK r)
theorem OP (p:kM) (K:KE) (hK:vS p K=true):(cw 0 (cj uH) dC 600 HG (pN p).1 (pN p).2.1 (pN p).2.2 K)=true:=by
 refine Eq.trans (b:=(iP (¬p.s=aW) (K (.sy (.bool ((Lib.idxFunc Lib.oddB true ⟨p.s.toArray⟩)<(0:Int)))) .leaf 0) (K (.sy (.bool (false=true))) .leaf 0))) (by kernel_rfl) ?_
 refine iI (fun hc1=> ?_) (fun hc1=> ?_)
 exact EA hK ⟨(Lib.idxFunc Lib.oddB true ⟨p.s.toArray⟩)<(0:Int)⟩ (by dsimp only[jL]<;>(unfold mM;first|(rw[Lib.idx_neg];simp_all;done)|simp_all))
 exact EA hK ⟨false=true⟩ (by dsimp only[jL]<;>(unfold mM;first|(rw[Lib.idx_neg];simp_all;done)|simp_all))
noncomputable def wv:=bN uH 0 (ck pN vS) 97 [(0,22)]
theorem wu:aZ Tryz.prog wv:=aR (nD (f:=97) (k:=0) (aQ vv) Jf (by rfl) (by rfl) OP) vv
def wP:XF:=.mk 21 (.one 2) (.aft (.seq (g_ 2 [e_ 0 1 (.box 124 (.t 0)),p_ 1 2 (.mv (.c (.bool false)))]) (.seq (g_ 19 [p_ 0 3 (f_ 0 1),r_ 1 4 (l_ 3),p_ 2 5 (.bin 3 0 (.t 4) (.c (.int 1 (.ofNat 4)))),p_ 3 6 (m_ 5),au 4 7 6 true (f_ 2 1),aY 5 8 6 true (l_ 7),au 6 9 6 true (.bin 5 1 (.t 8) (.c (.str []))),p_ 7 10 (.pick (.t 6) (.t 9) (.c (.bool false))),p_ 8 11 (m_ 10),au 9 12 11 true (f_ 2 1),aY 10 13 11 true (l_ 12),au 11 14 11 true (.len 0 (.t 13)),au 12 15 11 true (.bin 3 1 (.t 14) (i_ 16)),p_ 13 16 (.pick (.t 11) (.t 15) (.c (.bool false))),p_ 14 17 (m_ 16),aY 15 18 17 true (.ld true 5 (.t 1)),il 16 19 17 true 112 [.t 18],p_ 17 20 (.pick (.t 17) (.t 19) (.c (.bool false))),p_ 18 2 (m_ 20)]) .ret)) [(0,[.up 2]),(1,[.up 2])])
theorem BG:ci Tryz.prog 95 wP=true:=by kernel_rfl
structure eZ where
 p:aB
structure lg where
 q:Prop
def bF (p:eZ) (r:lg):Prop:=r.q↔bq p.p
noncomputable def jm (p:eZ):IE:=([.agg [.sy (.int 1 p.p.g),.sy (.int 1 p.p.k),.sy (.str p.p.key),.sy (.str p.p.val),.sy (.int 0 p.p.n)]],.leaf,0)
noncomputable def oM (p:eZ) (K:KE):Bool:=ai fun r:lg=>iP (bF p r) (K (.sy (.bool r.q)) .leaf 0) true
theorem cz {p:eZ} {K:KE} (hK:oM p K=true) (r:lg) (h:bF p r):K (.sy (.bool r.q)) .leaf 0=true:=aq h (az hK r)
theorem FE (p:eZ) (K:KE) (hK:oM p K=true):(cw 0 (cj wv) dC 600 wP (jm p).1 (jm p).2.1 (jm p).2.2 K)=true:=by
 refine Eq.trans (b:=(let z0:Bool:=(K (.sy (.bool (false=true))) .leaf 0);let z1:Bool:=(K (.sy (.bool (p.p.n=(0:Int)))) .leaf 0);iP (p.p.g<(4:Int)) (iP (¬p.p.key=aW) (iP ((p.p.key.length:Int)≤(16:Int)) (iP (p.p.k=(1:Int)) (iP ((p.p.val.length:Int)≤(64:Int)) z1 z0) (iP (p.p.k=(2:Int)) (iP (p.p.val=aW) (K (.sy (.bool ((0:Int)≤p.p.n))) .leaf 0) z0) (iP (p.p.k=(3:Int)) (iP (p.p.val=aW) (K (.sy (.bool ((0:Int)≤p.p.n))) .leaf 0) z0) (iP (p.p.k=(0:Int)) (iP (p.p.val=aW) z1 z0) (iP (p.p.k=(4:Int)) (iP (p.p.val=aW) z1 z0) z0))))) z0) z0) z0)) (by kernel_rfl) ?_
 refine iI (fun hc1=> ?_) (fun hc1=> ?_)
 refine iI (fun hc2=> ?_) (fun hc2=> ?_)
 refine iI (fun hc3=> ?_) (fun hc3=> ?_)
 refine iI (fun hc4=> ?_) (fun hc4=> ?_)
 refine iI (fun hc5=> ?_) (fun hc5=> ?_)
 exact cz hK ⟨p.p.n=(0:Int)⟩ (by dsimp only[bF]<;>(unfold bq;first|(simp_all;done)|(simp_all;omega)|(constructor<;>intro h<;>simp_all<;>omega)|(cases hk:p.p.key<;>cases hv:p.p.val<;>simp_all<;>omega)))
 exact cz hK ⟨false=true⟩ (by dsimp only[bF]<;>(unfold bq;first|(simp_all;done)|(simp_all;omega)|(constructor<;>intro h<;>simp_all<;>omega)|(cases hk:p.p.key<;>cases hv:p.p.val<;>simp_all<;>omega)))
 refine iI (fun hc6=> ?_) (fun hc6=> ?_)
 refine iI (fun hc7=> ?_) (fun hc7=> ?_)
 exact cz hK ⟨(0:Int)≤p.p.n⟩ (by dsimp only[bF]<;>(unfold bq;first|(simp_all;done)|(simp_all;omega)|(constructor<;>intro h<;>simp_all<;>omega)|(cases hk:p.p.key<;>cases hv:p.p.val<;>simp_all<;>omega)))
 exact cz hK ⟨false=true⟩ (by dsimp only[bF]<;>(unfold bq;first|(simp_all;done)|(simp_all;omega)|(constructor<;>intro h<;>simp_all<;>omega)|(cases hk:p.p.key<;>cases hv:p.p.val<;>simp_all<;>omega)))
 refine iI (fun hc8=> ?_) (fun hc8=> ?_)
 refine iI (fun hc9=> ?_) (fun hc9=> ?_)
 exact cz hK ⟨(0:Int)≤p.p.n⟩ (by dsimp only[bF]<;>(unfold bq;first|(simp_all;done)|(simp_all;omega)|(constructor<;>intro h<;>simp_all<;>omega)|(cases hk:p.p.key<;>cases hv:p.p.val<;>simp_all<;>omega)))
 exact cz hK ⟨false=true⟩ (by dsimp only[bF]<;>(unfold bq;first|(simp_all;done)|(simp_all;omega)|(constructor<;>intro h<;>simp_all<;>omega)|(cases hk:p.p.key<;>cases hv:p.p.val<;>simp_all<;>omega)))
 refine iI (fun hc10=> ?_) (fun hc10=> ?_)
 refine iI (fun hc11=> ?_) (fun hc11=> ?_)
 exact cz hK ⟨p.p.n=(0:Int)⟩ (by dsimp only[bF]<;>(unfold bq;first|(simp_all;done)|(simp_all;omega)|(constructor<;>intro h<;>simp_all<;>omega)|(cases hk:p.p.key<;>cases hv:p.p.val<;>simp_all<;>omega)))
 exact cz hK ⟨false=true⟩ (by dsimp only[bF]<;>(unfold bq;first|(simp_all;done)|(simp_all;omega)|(constructor<;>intro h<;>simp_all<;>omega)|(cases hk:p.p.key<;>cases hv:p.p.val<;>simp_all<;>omega)))
 refine iI (fun hc12=> ?_) (fun hc12=> ?_)
 refine iI (fun hc13=> ?_) (fun hc13=> ?_)
 exact cz hK ⟨p.p.n=(0:Int)⟩ (by dsimp only[bF]<;>(unfold bq;first|(simp_all;done)|(simp_all;omega)|(constructor<;>intro h<;>simp_all<;>omega)|(cases hk:p.p.key<;>cases hv:p.p.val<;>simp_all<;>omega)))
 exact cz hK ⟨false=true⟩ (by dsimp only[bF]<;>(unfold bq;first|(simp_all;done)|(simp_all;omega)|(constructor<;>intro h<;>simp_all<;>omega)|(cases hk:p.p.key<;>cases hv:p.p.val<;>simp_all<;>omega)))
 exact cz hK ⟨false=true⟩ (by dsimp only[bF]<;>(unfold bq;first|(simp_all;done)|(simp_all;omega)|(constructor<;>intro h<;>simp_all<;>omega)|(cases hk:p.p.key<;>cases hv:p.p.val<;>simp_all<;>omega)))
 exact cz hK ⟨false=true⟩ (by dsimp only[bF]<;>(unfold bq;first|(simp_all;done)|(simp_all;omega)|(constructor<;>intro h<;>simp_all<;>omega)|(cases hk:p.p.key<;>cases hv:p.p.val<;>simp_all<;>omega)))
 exact cz hK ⟨false=true⟩ (by dsimp only[bF]<;>(unfold bq;first|(simp_all;done)|(simp_all;omega)|(constructor<;>intro h<;>simp_all<;>omega)|(cases hk:p.p.key<;>cases hv:p.p.val<;>simp_all<;>omega)))
 exact cz hK ⟨false=true⟩ (by dsimp only[bF]<;>(unfold bq;first|(simp_all;done)|(simp_all;omega)|(constructor<;>intro h<;>simp_all<;>omega)|(cases hk:p.p.key<;>cases hv:p.p.val<;>simp_all<;>omega)))
noncomputable def oR:=bN wv 0 (ck jm oM) 95 [(0,15)]
theorem qu:aZ Tryz.prog oR:=aR (nD (f:=95) (k:=0) (aQ wu) BG (by rfl) (by rfl) FE) wu
def Ob:XF:=.mk 59 (.one 2) (.aft (.seq (g_ 2 [e_ 0 1 (.box 118 (.t 0)),p_ 1 2 (.mv (.c (.bool false)))]) (.seq (g_ 57 [p_ 0 3 (f_ 0 1),r_ 1 4 (l_ 3),p_ 2 5 (.bin 3 0 (.t 4) (.c (.int 1 (.ofNat 4)))),p_ 3 6 (m_ 5),au 4 7 6 true (f_ 1 1),aY 5 8 6 true (l_ 7),au 6 9 6 true (.bin 3 1 (.t 8) (.c (.int 1 (.ofNat 4)))),p_ 7 10 (.pick (.t 6) (.t 9) (.c (.bool false))),p_ 8 11 (m_ 10),au 9 12 11 true (f_ 2 1),aY 10 13 11 true (l_ 12),au 11 14 11 true (.len 0 (.t 13)),au 12 15 11 true (.bin 3 3 (.t 14) (i_ 1)),p_ 13 16 (.pick (.t 11) (.t 15) (.c (.bool false))),p_ 14 17 (m_ 16),au 15 18 17 true (f_ 2 1),aY 16 19 17 true (l_ 18),au 17 20 17 true (.len 0 (.t 19)),au 18 21 17 true (.bin 3 1 (.t 20) (i_ 16)),p_ 19 22 (.pick (.t 17) (.t 21) (.c (.bool false))),p_ 20 23 (m_ 22),au 21 24 23 true (f_ 3 1),aY 22 25 23 true (l_ 24),au 23 26 23 true (.len 0 (.t 25)),au 24 27 23 true (.bin 3 1 (.t 26) (i_ 64)),p_ 25 28 (.pick (.t 23) (.t 27) (.c (.bool false))),p_ 26 29 (m_ 28),au 27 30 29 true (f_ 1 1),aY 28 31 29 true (l_ 30),au 29 32 29 true (.bin 3 4 (.t 31) (.c (.int 1 (.ofNat 1)))),au 30 33 29 true (m_ 32),au 31 34 33 false (f_ 3 1),aY 32 35 33 false (l_ 34),au 33 36 33 false (.bin 5 0 (.t 35) (.c (.str []))),au 34 37 29 true (.pick (.t 33) (.c (.bool true)) (.t 36)),p_ 35 38 (.pick (.t 29) (.t 37) (.c (.bool false))),p_ 36 39 (m_ 38),au 37 40 39 true (f_ 4 1),aY 38 41 39 true (l_ 40),au 39 42 39 true (.bin 3 3 (.t 41) (i_ 0)),p_ 40 43 (.pick (.t 39) (.t 42) (.c (.bool false))),p_ 41 44 (m_ 43),au 42 45 44 true (f_ 1 1),aY 43 46 44 true (l_ 45),au 44 47 44 true (.bin 3 4 (.t 46) (.c (.int 1 (.ofNat 2)))),au 45 48 44 true (m_ 47),au 46 49 48 false (f_ 1 1),aY 47 50 48 false (l_ 49),au 48 51 48 false (.bin 3 4 (.t 50) (.c (.int 1 (.ofNat 3)))),au 49 52 44 true (.pick (.t 48) (.c (.bool true)) (.t 51)),au 50 53 44 true (m_ 52),au 51 54 53 false (f_ 4 1),aY 52 55 53 false (l_ 54),au 53 56 53 false (.bin 3 4 (.t 55) (i_ 0)),au 54 57 44 true (.pick (.t 53) (.c (.bool true)) (.t 56)),p_ 55 58 (.pick (.t 44) (.t 57) (.c (.bool false))),p_ 56 2 (m_ 58)]) .ret)) [(0,[.up 2]),(1,[.up 2])])
theorem Oa:ci Tryz.prog 104 Ob=true:=by kernel_rfl
structure rT where
 p:aB
structure MA where
 q:Prop
def ec (p:rT) (r:MA):Prop:=r.q↔bq p.p
noncomputable def yt (p:rT):IE:=([.agg [.sy (.int 1 p.p.g),.sy (.int 1 p.p.k),.sy (.str p.p.key),.sy (.str p.p.val),.sy (.int 0 p.p.n)]],.leaf,0)
noncomputable def CE (p:rT) (K:KE):Bool:=ai fun r:MA=>iP (ec p r) (K (.sy (.bool r.q)) .leaf 0) true
def nr (p:rT):Prop:=sR p.p
theorem fi {p:rT} {K:KE} (hK:CE p K=true) (r:MA) (h:ec p r):K (.sy (.bool r.q)) .leaf 0=true:=aq h (az hK r)
theorem Uo (p:rT) (K:KE) (hpre:nr p) (hK:CE p K=true):(cw 0 (cj oR) dC 600 Ob (yt p).1 (yt p).2.1 (yt p).2.2 K)=true:=by
 refine Eq.trans (b:=(let z0:Bool:=(K (.sy (.bool (false=true))) .leaf 0);let z1:Bool:=(K (.sy (.bool (true=true))) .leaf 0);iP (p.p.g<(4:Int)) (iP (p.p.k≤(4:Int)) (iP ((1:Int)≤(p.p.key.length:Int)) (iP ((p.p.key.length:Int)≤(16:Int)) (iP ((p.p.val.length:Int)≤(64:Int)) (iP (p.p.k=(1:Int)) (iP ((0:Int)≤p.p.n) (iP (p.p.k=(2:Int)) z1 (iP (p.p.k=(3:Int)) z1 (K (.sy (.bool (p.p.n=(0:Int)))) .leaf 0))) z0) (iP (p.p.val=aW) (iP ((0:Int)≤p.p.n) (iP (p.p.k=(2:Int)) z1 (iP (p.p.k=(3:Int)) z1 (K (.sy (.bool (p.p.n=(0:Int)))) .leaf 0))) z0) z0)) z0) z0) z0) z0) z0)) (by kernel_rfl) ?_
 dsimp only[nr]at hpre
 unfold sR at hpre
 refine iI (fun hc1=> ?_) (fun hc1=> ?_)
 refine iI (fun hc2=> ?_) (fun hc2=> ?_)
 refine iI (fun hc3=> ?_) (fun hc3=> ?_)
 refine iI (fun hc4=> ?_) (fun hc4=> ?_)
 refine iI (fun hc5=> ?_) (fun hc5=> ?_)
 refine iI (fun hc6=> ?_) (fun hc6=> ?_)
 refine iI (fun hc7=> ?_) (fun hc7=> ?_)
 refine iI (fun hc8=> ?_) (fun hc8=> ?_)
 exact fi hK ⟨true=true⟩ (by dsimp only[ec]<;>(unfold bq;first|(simp_all;done)|(simp_all;omega)|(constructor<;>intro h<;>simp_all<;>omega)|(cases hk:p.p.key<;>cases hv:p.p.val<;>simp_all<;>omega)))
 refine iI (fun hc9=> ?_) (fun hc9=> ?_)
 exact fi hK ⟨true=true⟩ (by dsimp only[ec]<;>(unfold bq;first|(simp_all;done)|(simp_all;omega)|(constructor<;>intro h<;>simp_all<;>omega)|(cases hk:p.p.key<;>cases hv:p.p.val<;>simp_all<;>omega)))
 exact fi hK ⟨p.p.n=(0:Int)⟩ (by dsimp only[ec]<;>(unfold bq;first|(simp_all;done)|(simp_all;omega)|(constructor<;>intro h<;>simp_all<;>omega)|(cases hk:p.p.key<;>cases hv:p.p.val<;>simp_all<;>omega)))
 exact fi hK ⟨false=true⟩ (by dsimp only[ec]<;>(unfold bq;first|(simp_all;done)|(simp_all;omega)|(constructor<;>intro h<;>simp_all<;>omega)|(cases hk:p.p.key<;>cases hv:p.p.val<;>simp_all<;>omega)))
 refine iI (fun hc10=> ?_) (fun hc10=> ?_)
 refine iI (fun hc11=> ?_) (fun hc11=> ?_)
 refine iI (fun hc12=> ?_) (fun hc12=> ?_)
 exact fi hK ⟨true=true⟩ (by dsimp only[ec]<;>(unfold bq;first|(simp_all;done)|(simp_all;omega)|(constructor<;>intro h<;>simp_all<;>omega)|(cases hk:p.p.key<;>cases hv:p.p.val<;>simp_all<;>omega)))
 refine iI (fun hc13=> ?_) (fun hc13=> ?_)
 exact fi hK ⟨true=true⟩ (by dsimp only[ec]<;>(unfold bq;first|(simp_all;done)|(simp_all;omega)|(constructor<;>intro h<;>simp_all<;>omega)|(cases hk:p.p.key<;>cases hv:p.p.val<;>simp_all<;>omega)))
 exact fi hK ⟨p.p.n=(0:Int)⟩ (by dsimp only[ec]<;>(unfold bq;first|(simp_all;done)|(simp_all;omega)|(constructor<;>intro h<;>simp_all<;>omega)|(cases hk:p.p.key<;>cases hv:p.p.val<;>simp_all<;>omega)))
 exact fi hK ⟨false=true⟩ (by dsimp only[ec]<;>(unfold bq;first|(simp_all;done)|(simp_all;omega)|(constructor<;>intro h<;>simp_all<;>omega)|(cases hk:p.p.key<;>cases hv:p.p.val<;>simp_all<;>omega)))
 exact fi hK ⟨false=true⟩ (by dsimp only[ec]<;>(unfold bq;first|(simp_all;done)|(simp_all;omega)|(constructor<;>intro h<;>simp_all<;>omega)|(cases hk:p.p.key<;>cases hv:p.p.val<;>simp_all<;>omega)))
 exact fi hK ⟨false=true⟩ (by dsimp only[ec]<;>(unfold bq;first|(simp_all;done)|(simp_all;omega)|(constructor<;>intro h<;>simp_all<;>omega)|(cases hk:p.p.key<;>cases hv:p.p.val<;>simp_all<;>omega)))
 exact fi hK ⟨false=true⟩ (by dsimp only[ec]<;>(unfold bq;first|(simp_all;done)|(simp_all;omega)|(constructor<;>intro h<;>simp_all<;>omega)|(cases hk:p.p.key<;>cases hv:p.p.val<;>simp_all<;>omega)))
 exact fi hK ⟨false=true⟩ (by dsimp only[ec]<;>(unfold bq;first|(simp_all;done)|(simp_all;omega)|(constructor<;>intro h<;>simp_all<;>omega)|(cases hk:p.p.key<;>cases hv:p.p.val<;>simp_all<;>omega)))
 exact fi hK ⟨false=true⟩ (by dsimp only[ec]<;>(unfold bq;first|(simp_all;done)|(simp_all;omega)|(constructor<;>intro h<;>simp_all<;>omega)|(cases hk:p.p.key<;>cases hv:p.p.val<;>simp_all<;>omega)))
 exact fi hK ⟨false=true⟩ (by dsimp only[ec]<;>(unfold bq;first|(simp_all;done)|(simp_all;omega)|(constructor<;>intro h<;>simp_all<;>omega)|(cases hk:p.p.key<;>cases hv:p.p.val<;>simp_all<;>omega)))
noncomputable def xP:=bN oR 0 (ck yt (dP nr CE)) 104 [(0,15)]
theorem uC:aZ Tryz.prog xP:=aR (cJ (f:=104) (k:=0) (aQ qu) Oa (by rfl) (by rfl) Uo) qu
def sI:XC:=(.aft (.seq (.seq (g_ 4 [p_ 0 4 (m_ 3),p_ 1 5 (m_ 0),p_ 2 6 (.len 0 (.t 5)),p_ 3 7 (.bin 3 0 (.t 4) (.t 6))]) (.cond (.t 7) .skip (.exit 2))) (.seq (.block 3 (.seq (g_ 23 [p_ 0 10 (m_ 0),p_ 1 11 (m_ 3),p_ 2 12 (.six (.t 10) (.t 11)),p_ 3 13 (.bin 3 3 (.t 12) (.c (.int 1 (.ofNat 97)))),p_ 4 14 (m_ 13),au 5 15 14 true (m_ 0),au 6 16 14 true (m_ 3),au 7 17 14 true (.six (.t 15) (.t 16)),au 8 18 14 true (.bin 3 1 (.t 17) (.c (.int 1 (.ofNat 122)))),p_ 9 19 (.pick (.t 14) (.t 18) (.c (.bool false))),p_ 10 20 (m_ 19),au 11 21 20 false (m_ 0),au 12 22 20 false (m_ 3),au 13 23 20 false (.six (.t 21) (.t 22)),au 14 24 20 false (.bin 3 3 (.t 23) (.c (.int 1 (.ofNat 48)))),au 15 25 20 false (m_ 24),au 16 26 25 true (m_ 0),au 17 27 25 true (m_ 3),au 18 28 25 true (.six (.t 26) (.t 27)),au 19 29 25 true (.bin 3 1 (.t 28) (.c (.int 1 (.ofNat 57)))),au 20 30 20 false (.pick (.t 25) (.t 29) (.c (.bool false))),p_ 21 31 (.pick (.t 20) (.c (.bool true)) (.t 30)),p_ 22 32 (.un 0 (.t 31))]) (.cond (.t 32) (.seq (g_ 1 [p_ 0 2 (.mv (.c (.bool false)))]) .ret) .skip))) (g_ 3 [p_ 0 8 (m_ 3),p_ 1 9 (.bin 0 0 (.t 8) (i_ 1)),p_ 2 3 (m_ 9)]))) [(0,[.can 0 [0,3]]),(1,[.can 0 [2]]),(2,[.can 0 [0]])])
def Es:XF:=.mk 35 (.one 2) (.aft (.seq (g_ 1 [p_ 0 2 (.mv (.c (.bool false)))]) (.seq (.seq (g_ 1 [p_ 0 3 (.mv (i_ 0))]) (.block 2 (.pre [.can 0 [0,3],.up 3,.can 0 [0,3]] (.inv 0 sI)))) (.seq (g_ 3 [p_ 0 33 (m_ 0),p_ 1 34 (.bin 5 1 (.t 33) (.c (.str []))),p_ 2 2 (m_ 34)]) .ret))) [(0,[.up 2]),(1,[.up 2])])
theorem Hz:ci Tryz.prog 105 Es=true:=by kernel_rfl
structure dE where
 s:List UInt8
 i:Int
def yE (p:dE):Prop:=∀b∈p.s,Lib.okc b.toNat=true
def vJ (p:dE):Prop:=¬∀b∈p.s,Lib.okc b.toNat=true
noncomputable def fD (p:dE):IL:=((.cons 3 (.sy (.int 0 p.i)) (.cons 0 (.sy (.str p.s)) .nil)),.leaf,0)
noncomputable def qe (p:dE) (K:KC):Bool:=ac (iP (yE p) (K 2 (.cons 0 (.sy (.str p.s)) .nil) .leaf 0) true) (iP (vJ p) (K 1 (.cons 2 (.bool false) .nil) .leaf 0) true)
def fX (p:dE):Prop:=p.s.length≤1000000∧0≤p.i∧p.i≤(p.s.length:Int)∧Fh p.s p.i
noncomputable def nS (p:dE) (K:KC):Bool:=ac (aC (fX p)) (qe p K)
noncomputable def rB:gO:=fun j S M nx K=>(Bool.rec (false) (aN fun p:dE=>ac (aC ((S,M,nx)=fD p)) (nS p K)) (Nat.beq j 0))
def dQ (p:dE):Nat:=((p.s.length:Int) - p.i).toNat
noncomputable def oe (s:IL) (n:Nat) (K:KC):Bool:=aN fun q=>mP (s=fD q∧dQ q<n) (nS q K)
theorem sG {p q:dE} {K:KC} {s:IL} (hm:dQ q<dQ p:=by dsimp only[dQ]<;>(omega)) (hp:fX q:=by dsimp only[fX]<;>(exact⟨g0,by omega,by omega,LF g3 (by omega) (by unfold wk;omega)⟩)) (hK:qe q K=true:=by exact(by first|exact hK|exact aE hK0 hK1)) (e:s=fD q:=by rfl):oe s (dQ p) K=true:=bj q (bl ⟨e,hm⟩ (bl hp hK))
theorem IQ (p:dE) (K:KC) (hpre:fX p) (hK:qe p K=true):(df (cj xP) rB 600 sI (fD p).1 (fD p).2.1 (fD p).2.2 (fun e S M nx=>Nat.casesOn e (aN fun q:dE=>ac (aC ((S,M,nx)=fD q∧dQ q<dQ p)) (nS q K)) (fun e2=>K (Nat.succ e2) S M nx)))=true:=by
 refine Eq.trans (b:=(let z0:Bool:=(K 1 (.cons 2 (.bool false) .nil) .leaf 0);iP (p.i<(p.s.length:Int)) (mP (0≤p.i∧p.i<(p.s.length:Int)) (iP ((97:Int)≤((p.s.getD p.i.toNat 0).toNat:Int)) (mP (0≤p.i∧p.i<(p.s.length:Int)) (iP (((p.s.getD p.i.toNat 0).toNat:Int)≤(122:Int)) (mP (bb 0 (p.i+(1:Int))) (oe ((.cons 3 (.sy (.int 0 (p.i+(1:Int)))) (.cons 0 (.sy (.str p.s)) .nil)),.leaf,0) (dQ p) K)) (mP (0≤p.i∧p.i<(p.s.length:Int)) (iP ((48:Int)≤((p.s.getD p.i.toNat 0).toNat:Int)) (mP (0≤p.i∧p.i<(p.s.length:Int)) (iP (¬(((p.s.getD p.i.toNat 0).toNat:Int)≤(57:Int))) z0 (mP (bb 0 (p.i+(1:Int))) (oe ((.cons 3 (.sy (.int 0 (p.i+(1:Int)))) (.cons 0 (.sy (.str p.s)) .nil)),.leaf,0) (dQ p) K)))) z0)))) (mP (0≤p.i∧p.i<(p.s.length:Int)) (iP ((48:Int)≤((p.s.getD p.i.toNat 0).toNat:Int)) (mP (0≤p.i∧p.i<(p.s.length:Int)) (iP (¬(((p.s.getD p.i.toNat 0).toNat:Int)≤(57:Int))) z0 (mP (bb 0 (p.i+(1:Int))) (oe ((.cons 3 (.sy (.int 0 (p.i+(1:Int)))) (.cons 0 (.sy (.str p.s)) .nil)),.leaf,0) (dQ p) K)))) z0)))) (K 2 (.cons 0 (.sy (.str p.s)) .nil) .leaf 0))) (by kernel_rfl) ?_
 obtain⟨hK0,hKr0⟩:=aj hK
 have hK1:=hKr0
 dsimp only[fX]at hpre
 obtain⟨g0,g1,g2,g3⟩:=hpre
 refine iI (fun hc1=> ?_) (fun hc1=> ?_)
 refine bC ?_
 refine iI (fun hc2=> ?_) (fun hc2=> ?_)
 refine bC ?_
 refine iI (fun hc3=> ?_) (fun hc3=> ?_)
 refine fe ?_
 exact sG (q:=⟨p.s,p.i+(1:Int)⟩)
 refine bC ?_
 refine iI (fun hc4=> ?_) (fun hc4=> ?_)
 refine bC ?_
 refine iI (fun hc5=> ?_) (fun hc5=> ?_)
 exact aq (show¬∀b∈p.s,Lib.okc b.toNat=true from(by intro h;have h9:=Fg h (show p.i.toNat<p.s.length by omega);unfold wk at h9;omega)) hK1
 refine fe ?_
 exact sG (q:=⟨p.s,p.i+(1:Int)⟩)
 exact aq (show¬∀b∈p.s,Lib.okc b.toNat=true from(by intro h;have h9:=Fg h (show p.i.toNat<p.s.length by omega);unfold wk at h9;omega)) hK1
 refine bC ?_
 refine iI (fun hc6=> ?_) (fun hc6=> ?_)
 refine bC ?_
 refine iI (fun hc7=> ?_) (fun hc7=> ?_)
 exact aq (show¬∀b∈p.s,Lib.okc b.toNat=true from(by intro h;have h9:=Fg h (show p.i.toNat<p.s.length by omega);unfold wk at h9;omega)) hK1
 refine fe ?_
 exact sG (q:=⟨p.s,p.i+(1:Int)⟩)
 exact aq (show¬∀b∈p.s,Lib.okc b.toNat=true from(by intro h;have h9:=Fg h (show p.i.toNat<p.s.length by omega);unfold wk at h9;omega)) hK1
 exact aq (show∀b∈p.s,Lib.okc b.toNat=true from(by exact NB g3 (by omega))) hK0
theorem IY:dR Tryz.prog 35 0 rB true 0 sI:=by
 exact gm (lf:=600) bH (aQ uC) (by rfl) fD dQ nS (fun b j x h=>by cases h) (fun S M nx K h=>by obtain⟨p,h⟩:=bR h;exact⟨p,(aa h).1,(aa h).2⟩) (fun p K h=>IQ p K (aa h).1 (aa h).2)
structure kc where
 s:List UInt8
structure AB where
 q:Prop
def iA (p:kc) (r:AB):Prop:=r.q↔mM p.s
noncomputable def nK (p:kc):IE:=([.sy (.str p.s)],.leaf,0)
noncomputable def ug (p:kc) (K:KE):Bool:=ai fun r:AB=>iP (iA p r) (K (.sy (.bool r.q)) .leaf 0) true
def iF (p:kc):Prop:=p.s.length≤1000000
theorem BL {p:kc} {K:KE} (hK:ug p K=true) (r:AB) (h:iA p r):K (.sy (.bool r.q)) .leaf 0=true:=aq h (az hK r)
theorem MN (p:kc) (K:KE) (hpre:iF p) (hK:ug p K=true):(cw 0 (cj xP) rB 600 Es (nK p).1 (nK p).2.1 (nK p).2.2 K)=true:=by
 refine Eq.trans (b:=(aN fun p1:dE=>mP (((.cons 3 (.sy (.int 0 0)) (.cons 0 (.sy (.str p.s)) .nil)),.leaf,0)=fD p1) (mP (fX p1) (ac (iP (yE p1) (K (.sy (.bool (¬p1.s=aW))) .leaf 0) true) (iP (vJ p1) (K (.sy (.bool (false=true))) .leaf 0) true))))) (by kernel_rfl) ?_
 dsimp only[iF]at hpre
 refine eX (⟨p.s,(0:Int)⟩:dE) rfl (by(try dsimp only[fX]);exact⟨hpre,by omega,by omega,fun j h1 h2=>by omega⟩) ?_
 refine aE ?_ ?_
 refine iI (p:=∀b∈p.s,Lib.okc b.toNat=true) (fun hi1=> ?_) (fun _=>rfl)
 exact BL hK ⟨¬p.s=aW⟩ (by dsimp only[iA]<;>(unfold mM;simp_all))
 refine iI (p:=¬∀b∈p.s,Lib.okc b.toNat=true) (fun hi2=> ?_) (fun _=>rfl)
 exact BL hK ⟨false=true⟩ (by dsimp only[iA]<;>(unfold mM;simp_all))
noncomputable def uA:=bN xP 0 (ck nK (dP iF ug)) 105 [(0,22)]
theorem vq:aZ Tryz.prog uA:=aR (cM (f:=105) (k:=0) (lp:=rB) (lf:=600) bH (aQ uC) Hz (by rfl) (fun b j x h=>(cG IY (fun h=>(by cases h)) h)) fun p K h=>MN p K (aa h).1 (aa h).2) uC
def Eo:XF:=.mk 20 (.one 2) (.aft (.seq (g_ 2 [e_ 0 1 (.box 124 (.t 0)),p_ 1 2 (.mv (.c (.bool false)))]) (.seq (g_ 18 [r_ 0 3 (.ld true 5 (.t 1)),c_ 1 4 95 [.t 3],p_ 2 5 (m_ 4),au 3 6 5 true (f_ 2 1),aY 4 7 5 true (l_ 6),il 5 8 5 true 97 [.t 7],p_ 6 9 (.pick (.t 5) (.t 8) (.c (.bool false))),p_ 7 10 (m_ 9),au 8 11 10 true (f_ 1 1),aY 9 12 10 true (l_ 11),au 10 13 10 true (.bin 3 5 (.t 12) (.c (.int 1 (.ofNat 1)))),au 11 14 10 true (m_ 13),au 12 15 14 false (f_ 3 1),aY 13 16 14 false (l_ 15),il 14 17 14 false 97 [.t 16],au 15 18 10 true (.pick (.t 14) (.c (.bool true)) (.t 17)),p_ 16 19 (.pick (.t 10) (.t 18) (.c (.bool false))),p_ 17 2 (m_ 19)]) .ret)) [(0,[.up 2]),(1,[.up 2])])
theorem Hv:ci Tryz.prog 71 Eo=true:=by kernel_rfl
structure dz where
 p:aB
structure iV where
 q:Prop
def cL (p:dz) (r:iV):Prop:=r.q↔bA p.p
noncomputable def ia (p:dz):IE:=([.agg [.sy (.int 1 p.p.g),.sy (.int 1 p.p.k),.sy (.str p.p.key),.sy (.str p.p.val),.sy (.int 0 p.p.n)]],.leaf,0)
noncomputable def ud (p:dz) (K:KE):Bool:=ai fun r:iV=>iP (cL p r) (K (.sy (.bool r.q)) .leaf 0) true
theorem pt {p:dz} {K:KE} (hK:ud p K=true) (r:iV) (h:cL p r):K (.sy (.bool r.q)) .leaf 0=true:=aq h (az hK r)
theorem MK (p:dz) (K:KE) (hK:ud p K=true):(cw 0 (cj uA) dC 600 Eo (ia p).1 (ia p).2.1 (ia p).2.2 K)=true:=by
 refine Eq.trans (b:=(aN fun p1:eZ=>mP (([.agg [.sy (.int 1 p.p.g),.sy (.int 1 p.p.k),.sy (.str p.p.key),.sy (.str p.p.val),.sy (.int 0 p.p.n)]],.leaf,0)=jm p1) (ai fun r1:lg=>iP (bF p1 r1) (iP (r1.q) (aN fun p2:kM=>mP (([.sy (.str p.p.key)],.leaf,0)=pN p2) (ai fun r2:tw=>iP (jL p2 r2) (iP (r2.q) (iP (¬p.p.k=(1:Int)) (K (.sy (.bool (true=true))) .leaf 0) (aN fun p3:kM=>mP (([.sy (.str p.p.val)],.leaf,0)=pN p3) (ai fun r3:tw=>iP (jL p3 r3) (K (.sy (.bool r3.q)) .leaf 0) true))) (K (.sy (.bool (false=true))) .leaf 0)) true)) (K (.sy (.bool (false=true))) .leaf 0)) true))) (by kernel_rfl) ?_
 refine cU (⟨p.p⟩:eZ) rfl fun r1 hi1=> ?_
 dsimp only[bF]at hi1
 refine iI (fun hc2=> ?_) (fun hc2=> ?_)
 refine cU (⟨p.p.key⟩:kM) rfl fun r2 hi3=> ?_
 dsimp only[jL]at hi3
 refine iI (fun hc4=> ?_) (fun hc4=> ?_)
 refine iI (fun hc5=> ?_) (fun hc5=> ?_)
 exact pt hK ⟨true=true⟩ (by dsimp only[cL]<;>(unfold bA;simp_all))
 refine cU (⟨p.p.val⟩:kM) rfl fun r3 hi6=> ?_
 dsimp only[jL]at hi6
 exact pt hK ⟨r3.q⟩ (by dsimp only[cL]<;>(unfold bA;simp_all))
 exact pt hK ⟨false=true⟩ (by dsimp only[cL]<;>(unfold bA;simp_all))
 exact pt hK ⟨false=true⟩ (by dsimp only[cL]<;>(unfold bA;simp_all))
noncomputable def uy:=bN uA 0 (ck ia ud) 71 [(0,15)]
theorem vo:aZ Tryz.prog uy:=aR (nD (f:=71) (k:=0) (aQ vq) Hv (by rfl) (by rfl) MK) vq
def HB:XF:=.mk 20 (.one 2) (.aft (.seq (g_ 2 [e_ 0 1 (.box 118 (.t 0)),p_ 1 2 (.mv (.c (.bool false)))]) (.seq (g_ 18 [r_ 0 3 (.ld true 5 (.t 1)),c_ 1 4 104 [.t 3],p_ 2 5 (m_ 4),au 3 6 5 true (f_ 2 1),aY 4 7 5 true (l_ 6),il 5 8 5 true 105 [.t 7],p_ 6 9 (.pick (.t 5) (.t 8) (.c (.bool false))),p_ 7 10 (m_ 9),au 8 11 10 true (f_ 1 1),aY 9 12 10 true (l_ 11),au 10 13 10 true (.bin 3 5 (.t 12) (.c (.int 1 (.ofNat 1)))),au 11 14 10 true (m_ 13),au 12 15 14 false (f_ 3 1),aY 13 16 14 false (l_ 15),il 14 17 14 false 105 [.t 16],au 15 18 10 true (.pick (.t 14) (.c (.bool true)) (.t 17)),p_ 16 19 (.pick (.t 10) (.t 18) (.c (.bool false))),p_ 17 2 (m_ 19)]) .ret)) [(0,[.up 2]),(1,[.up 2])])
theorem Jd:ci Tryz.prog 84 HB=true:=by kernel_rfl
structure iw where
 p:aB
structure Dy where
 q:Prop
def dH (p:iw) (r:Dy):Prop:=r.q↔bA p.p
noncomputable def kB (p:iw):IE:=([.agg [.sy (.int 1 p.p.g),.sy (.int 1 p.p.k),.sy (.str p.p.key),.sy (.str p.p.val),.sy (.int 0 p.p.n)]],.leaf,0)
noncomputable def vQ (p:iw) (K:KE):Bool:=ai fun r:Dy=>iP (dH p r) (K (.sy (.bool r.q)) .leaf 0) true
def dZ (p:iw):Prop:=sR p.p
theorem rL {p:iw} {K:KE} (hK:vQ p K=true) (r:Dy) (h:dH p r):K (.sy (.bool r.q)) .leaf 0=true:=aq h (az hK r)
theorem ON (p:iw) (K:KE) (hpre:dZ p) (hK:vQ p K=true):(cw 0 (cj uy) dC 600 HB (kB p).1 (kB p).2.1 (kB p).2.2 K)=true:=by
 refine Eq.trans (b:=(aH (([.agg [.sy (.int 1 p.p.g),.sy (.int 1 p.p.k),.sy (.str p.p.key),.sy (.str p.p.val),.sy (.int 0 p.p.n)]],.leaf,0)) yt nr ec fun p1 r1=>iP (r1.q) (aH (([.sy (.str p.p.key)],.leaf,0)) nK iF iA fun p2 r2=>iP (r2.q) (iP (¬p.p.k=(1:Int)) (K (.sy (.bool (true=true))) .leaf 0) (aH (([.sy (.str p.p.val)],.leaf,0)) nK iF iA fun p3 r3=>K (.sy (.bool r3.q)) .leaf 0)) (K (.sy (.bool (false=true))) .leaf 0)) (K (.sy (.bool (false=true))) .leaf 0))) (by kernel_rfl) ?_
 dsimp only[dZ]at hpre
 refine ay (⟨p.p⟩:rT) rfl (by(try dsimp only[nr]);assumption) fun r1 hi1=> ?_
 dsimp only[ec]at hi1
 refine iI (fun hc2=> ?_) (fun hc2=> ?_)
 refine ay (⟨p.p.key⟩:kc) rfl (by(try dsimp only[iF]);have e:=DV ((by assumption:_↔bq _).1 (by assumption));omega) fun r2 hi3=> ?_
 dsimp only[iA]at hi3
 refine iI (fun hc4=> ?_) (fun hc4=> ?_)
 refine iI (fun hc5=> ?_) (fun hc5=> ?_)
 exact rL hK ⟨true=true⟩ (by dsimp only[dH]<;>(unfold bA;simp_all))
 refine ay (⟨p.p.val⟩:kc) rfl (by(try dsimp only[iF]);have e:=DV ((by assumption:_↔bq _).1 (by assumption));omega) fun r3 hi6=> ?_
 dsimp only[iA]at hi6
 exact rL hK ⟨r3.q⟩ (by dsimp only[dH]<;>(unfold bA;simp_all))
 exact rL hK ⟨false=true⟩ (by dsimp only[dH]<;>(unfold bA;simp_all))
 exact rL hK ⟨false=true⟩ (by dsimp only[dH]<;>(unfold bA;simp_all))
noncomputable def rq:=bN uy 0 (ck kB (dP dZ vQ)) 84 [(0,15)]
theorem qp:aZ Tryz.prog rq:=aR (cJ (f:=84) (k:=0) (aQ vo) Jd (by rfl) (by rfl) ON) vo
def px:XC:=(.aft (.seq (g_ 1 [p_ 0 9 (.bin 3 0 (.t 8) (.t 7))]) (.seq (.cond (.t 9) .skip (.exit 2)) (.seq (.block 3 (.seq (g_ 2 [p_ 0 10 (m_ 8),p_ 1 5 (m_ 10)]) (.seq (g_ 6 [p_ 0 11 (m_ 1),p_ 1 12 (m_ 0),p_ 2 13 (m_ 5),p_ 3 14 (.ixs 5 (.t 12) (.t 13)),r_ 4 15 (.ld true 5 (.t 14)),.k 5 (some 16) none 11 [94,70] [.t 15]]) (.cond (.t 16) (.seq (g_ 2 [p_ 0 17 (m_ 5),p_ 1 4 (m_ 17)]) .ret) .skip)))) (g_ 2 [p_ 0 18 (.bin 0 0 (.t 8) (i_ 1)),p_ 1 8 (m_ 18)])))) [(0,[.can 0 [0,1,7,8]]),(1,[.can 0 [4]]),(2,[.can 0 []])])
def HN:XF:=.mk 19 (.one 4) (.aft (.seq (g_ 1 [p_ 0 4 (.mv (i_ 0))]) (.seq (.seq (g_ 3 [p_ 0 6 (m_ 0),p_ 1 7 (k_ 6),p_ 2 8 (.mv (i_ 0))]) (.block 2 (.pre [.can 0 [0,1,7,8],.up 7,.up 8,.can 0 [0,1,7,8]] (.inv 0 px)))) (.seq (g_ 1 [p_ 0 4 (.mv (.c (.int 0 (.negSucc 0))))]) .ret))) [(0,[.up 4]),(1,[.up 4])])
theorem Jk:ci Tryz.prog 96 HN=true:=by kernel_rfl
structure ei where
 h:Value
 l:List aB
 i:Int
structure py where
 z:Int
def Ba (p:ei):Prop:=∀x∈p.l,bq x
def yF (p:ei) (r:py):Prop:=0≤r.z∧¬∀x∈p.l,bq x
noncomputable def gS (p:ei):IL:=((.cons 8 (.sy (.int 0 p.i)) (.cons 7 (.sy (.int 0 (p.l.length:Int))) (.cons 1 (.fn 94 []) (.cons 0 (.sy (.imm p.h 5 aB p.l aF)) .nil)))),.leaf,0)
noncomputable def so (p:ei) (K:KC):Bool:=ac (iP (Ba p) (K 2 .nil .leaf 0) true) (ai fun r:py=>iP (yF p r) (K 1 (.cons 4 (.sy (.int 0 r.z)) .nil) .leaf 0) true)
def gX (p:ei):Prop:=p.l.length≤1000000∧0≤p.i∧p.i≤(p.l.length:Int)∧(∀(j:Nat) y,(j:Int)<p.i→p.l[j]?=some y→bq y)
noncomputable def pc (p:ei) (K:KC):Bool:=ac (aC (gX p)) (so p K)
noncomputable def uL:gO:=fun j S M nx K=>(Bool.rec (false) (aN fun p:ei=>ac (aC ((S,M,nx)=gS p)) (pc p K)) (Nat.beq j 0))
def fy (p:ei):Nat:=((p.l.length:Int) - p.i).toNat
noncomputable def BX (s:IL) (n:Nat) (K:KC):Bool:=aN fun q=>mP (s=gS q∧fy q<n) (pc q K)
theorem Ms {p q:ei} {K:KC} {s:IL} (hm:fy q<fy p:=by dsimp only[fy]<;>(omega)) (hp:gX q:=by dsimp only[gX]<;>(exact⟨g0,by omega,by omega,vb g3 (by omega) hi2 (by simp_all)⟩)) (hK:so q K=true:=by exact hK) (e:s=gS q:=by rfl):BX s (fy p) K=true:=bj q (bl ⟨e,hm⟩ (bl hp hK))
theorem KR (p:ei) (K:KC) (hpre:gX p) (hK:so p K=true):(df (cj rq) uL 600 px (gS p).1 (gS p).2.1 (gS p).2.2 (fun e S M nx=>Nat.casesOn e (aN fun q:ei=>ac (aC ((S,M,nx)=gS q∧fy q<fy p)) (pc q K)) (fun e2=>K (Nat.succ e2) S M nx)))=true:=by
 refine Eq.trans (b:=(iP (p.i<(p.l.length:Int)) (mP (0≤p.i∧p.i<(p.l.length:Int)) (ai fun x1:aB=>iP (p.l[p.i.toNat]?=some x1) (aN fun p1:eZ=>mP (([.agg [.sy (.int 1 x1.g),.sy (.int 1 x1.k),.sy (.str x1.key),.sy (.str x1.val),.sy (.int 0 x1.n)]],.leaf,0)=jm p1) (ai fun r1:lg=>iP (bF p1 r1) (iP (¬r1.q) (K 1 (.cons 4 (.sy (.int 0 p.i)) .nil) .leaf 0) (mP (bb 0 (p.i+(1:Int))) (BX ((.cons 8 (.sy (.int 0 (p.i+(1:Int)))) (.cons 7 (.sy (.int 0 (p.l.length:Int))) (.cons 1 (.fn 94 []) (.cons 0 (.sy (.imm p.h 5 aB p.l aF)) .nil)))),.leaf,0) (fy p) K))) true)) true)) (K 2 .nil .leaf 0))) (by kernel_rfl) ?_
 obtain⟨hK0,hKr0⟩:=aj hK
 have hK1:=hKr0
 dsimp only[gX]at hpre
 obtain⟨g0,g1,g2,g3⟩:=hpre
 refine iI (fun hc1=> ?_) (fun hc1=> ?_)
 refine bC ?_
 refine am (fun x1=> ?_)
 refine iI (fun hi2=> ?_) (fun _=>rfl)
 refine cU (⟨x1⟩:eZ) rfl fun r1 hi3=> ?_
 dsimp only[bF]at hi3
 refine iI (fun hc4=> ?_) (fun hc4=> ?_)
 exact aq (show 0≤p.i∧¬∀x∈p.l,bq x from(by exact⟨by omega,Cb hi2 (by simp_all)⟩)) (az hK1 (⟨p.i⟩:py))
 refine fe ?_
 exact Ms (q:=⟨p.h,p.l,p.i+(1:Int)⟩)
 exact aq (show∀x∈p.l,bq x from(by exact tv g3 (by omega))) hK0
theorem LS:dR Tryz.prog 19 0 uL true 0 px:=by
 exact gm (lf:=600) bH (aQ qp) (by rfl) gS fy pc (fun b j x h=>by cases h) (fun S M nx K h=>by obtain⟨p,h⟩:=bR h;exact⟨p,(aa h).1,(aa h).2⟩) (fun p K h=>KR p K (aa h).1 (aa h).2)
structure nO where
 h:Value
 l:List aB
structure DF where
 z:Int
def nw (p:nO) (r:DF):Prop:=(0≤r.z↔¬∀x∈p.l,bq x)∧(r.z<0↔∀x∈p.l,bq x)
noncomputable def tC (p:nO):IE:=([.sy (.imm p.h 5 aB p.l aF),.fn 94 []],.leaf,0)
noncomputable def wi (p:nO) (K:KE):Bool:=ai fun r:DF=>iP (nw p r) (K (.sy (.int 0 r.z)) .leaf 0) true
def oo (p:nO):Prop:=p.l.length≤1000000
theorem EG {p:nO} {K:KE} (hK:wi p K=true) (r:DF) (h:nw p r):K (.sy (.int 0 r.z)) .leaf 0=true:=aq h (az hK r)
theorem OW (p:nO) (K:KE) (hpre:oo p) (hK:wi p K=true):(cw 0 (cj rq) uL 600 HN (tC p).1 (tC p).2.1 (tC p).2.2 K)=true:=by
 refine Eq.trans (b:=(aN fun p1:ei=>mP (((.cons 8 (.sy (.int 0 0)) (.cons 7 (.sy (.int 0 (p.l.length:Int))) (.cons 1 (.fn 94 []) (.cons 0 (.sy (.imm p.h 5 aB p.l aF)) .nil)))),.leaf,0)=gS p1) (mP (gX p1) (ac (iP (Ba p1) (K (.sy (.int 0 (-1))) .leaf 0) true) (ai fun r1:py=>iP (yF p1 r1) (K (.sy (.int 0 r1.z)) .leaf 0) true))))) (by kernel_rfl) ?_
 dsimp only[oo]at hpre
 refine eX (⟨p.h,p.l,(0:Int)⟩:ei) rfl (by(try dsimp only[gX]);exact⟨hpre,by omega,by omega,fun j y h1 h2=>by omega⟩) ?_
 refine aE ?_ ?_
 refine iI (p:=∀x∈p.l,bq x) (fun hi1=> ?_) (fun _=>rfl)
 exact EG hK ⟨((-1):Int)⟩ (by dsimp only[nw]<;>(first|(simp_all;done)|(obtain⟨a,b⟩:=hi1;exact⟨⟨fun _=>b,fun _=>a⟩,⟨fun c=>absurd c (by omega),fun c=>absurd c b⟩⟩)))
 refine am (fun r1=> ?_)
 refine iI (p:=0≤r1.z∧¬∀x∈p.l,bq x) (fun hi2=> ?_) (fun _=>rfl)
 exact EG hK ⟨r1.z⟩ (by dsimp only[nw]<;>(first|(simp_all;done)|(obtain⟨a,b⟩:=hi2;exact⟨⟨fun _=>b,fun _=>a⟩,⟨fun c=>absurd c (by omega),fun c=>absurd c b⟩⟩)))
noncomputable def Ah:co:=kO (fun us M=>ZK us 1 94) (ck tC (dP oo wi)) (fun _ _ _ _=>false)
theorem GJ:bS Tryz.prog 96 0 Ah:=eM (cM (f:=96) (k:=0) (lp:=uL) (lf:=600) bH (aQ qp) Jk (by rfl) (fun b j x h=>(cG LS (fun h=>(by cases h)) h)) fun p K h=>OW p K (aa h).1 (aa h).2) tb
noncomputable def rv:=bN rq 0 Ah 96 [(0,23)]
theorem qx:aZ Tryz.prog rv:=aR GJ qp
def va:XC:=px
def HO:XF:=.mk 19 (.one 4) (.aft (.seq (g_ 1 [p_ 0 4 (.mv (i_ 0))]) (.seq (.seq (g_ 3 [p_ 0 6 (m_ 0),p_ 1 7 (k_ 6),p_ 2 8 (.mv (i_ 0))]) (.block 2 (.pre [.can 0 [0,1,7,8],.up 7,.up 8,.can 0 [0,1,7,8]] (.inv 0 va)))) (.seq (g_ 1 [p_ 0 4 (.mv (.c (.int 0 (.negSucc 0))))]) .ret))) [(0,[.up 4]),(1,[.up 4])])
theorem Jl:ci Tryz.prog 96 HO=true:=by kernel_rfl
structure ej where
 h:Value
 l:List aB
 i:Int
structure pz where
 z:Int
def Bb (p:ej):Prop:=∀x∈p.l,bA x
def yG (p:ej) (r:pz):Prop:=0≤r.z∧¬∀x∈p.l,bA x
noncomputable def gT (p:ej):IL:=((.cons 8 (.sy (.int 0 p.i)) (.cons 7 (.sy (.int 0 (p.l.length:Int))) (.cons 1 (.fn 70 []) (.cons 0 (.sy (.imm p.h 5 aB p.l aF)) .nil)))),.leaf,0)
noncomputable def sq (p:ej) (K:KC):Bool:=ac (iP (Bb p) (K 2 .nil .leaf 0) true) (ai fun r:pz=>iP (yG p r) (K 1 (.cons 4 (.sy (.int 0 r.z)) .nil) .leaf 0) true)
def gY (p:ej):Prop:=p.l.length≤1000000∧0≤p.i∧p.i≤(p.l.length:Int)∧(∀(j:Nat) y,(j:Int)<p.i→p.l[j]?=some y→bA y)
noncomputable def pd (p:ej) (K:KC):Bool:=ac (aC (gY p)) (sq p K)
noncomputable def uM:gO:=fun j S M nx K=>(Bool.rec (false) (aN fun p:ej=>ac (aC ((S,M,nx)=gT p)) (pd p K)) (Nat.beq j 0))
def fA (p:ej):Nat:=((p.l.length:Int) - p.i).toNat
noncomputable def BY (s:IL) (n:Nat) (K:KC):Bool:=aN fun q=>mP (s=gT q∧fA q<n) (pd q K)
theorem Mt {p q:ej} {K:KC} {s:IL} (hm:fA q<fA p:=by dsimp only[fA]<;>(omega)) (hp:gY q:=by dsimp only[gY]<;>(exact⟨g0,by omega,by omega,vb g3 (by omega) hi2 (by simp_all)⟩)) (hK:sq q K=true:=by exact hK) (e:s=gT q:=by rfl):BY s (fA p) K=true:=bj q (bl ⟨e,hm⟩ (bl hp hK))
theorem KS (p:ej) (K:KC) (hpre:gY p) (hK:sq p K=true):(df (cj rv) uM 600 va (gT p).1 (gT p).2.1 (gT p).2.2 (fun e S M nx=>Nat.casesOn e (aN fun q:ej=>ac (aC ((S,M,nx)=gT q∧fA q<fA p)) (pd q K)) (fun e2=>K (Nat.succ e2) S M nx)))=true:=by
 refine Eq.trans (b:=(iP (p.i<(p.l.length:Int)) (mP (0≤p.i∧p.i<(p.l.length:Int)) (ai fun x1:aB=>iP (p.l[p.i.toNat]?=some x1) (aN fun p1:dz=>mP (([.agg [.sy (.int 1 x1.g),.sy (.int 1 x1.k),.sy (.str x1.key),.sy (.str x1.val),.sy (.int 0 x1.n)]],.leaf,0)=ia p1) (ai fun r1:iV=>iP (cL p1 r1) (iP (¬r1.q) (K 1 (.cons 4 (.sy (.int 0 p.i)) .nil) .leaf 0) (mP (bb 0 (p.i+(1:Int))) (BY ((.cons 8 (.sy (.int 0 (p.i+(1:Int)))) (.cons 7 (.sy (.int 0 (p.l.length:Int))) (.cons 1 (.fn 70 []) (.cons 0 (.sy (.imm p.h 5 aB p.l aF)) .nil)))),.leaf,0) (fA p) K))) true)) true)) (K 2 .nil .leaf 0))) (by kernel_rfl) ?_
 obtain⟨hK0,hKr0⟩:=aj hK
 have hK1:=hKr0
 dsimp only[gY]at hpre
 obtain⟨g0,g1,g2,g3⟩:=hpre
 refine iI (fun hc1=> ?_) (fun hc1=> ?_)
 refine bC ?_
 refine am (fun x1=> ?_)
 refine iI (fun hi2=> ?_) (fun _=>rfl)
 refine cU (⟨x1⟩:dz) rfl fun r1 hi3=> ?_
 dsimp only[cL]at hi3
 refine iI (fun hc4=> ?_) (fun hc4=> ?_)
 exact aq (show 0≤p.i∧¬∀x∈p.l,bA x from(by exact⟨by omega,Cb hi2 (by simp_all)⟩)) (az hK1 (⟨p.i⟩:pz))
 refine fe ?_
 exact Mt (q:=⟨p.h,p.l,p.i+(1:Int)⟩)
 exact aq (show∀x∈p.l,bA x from(by exact tv g3 (by omega))) hK0
theorem LU:dR Tryz.prog 19 0 uM true 0 va:=by
 exact gm (lf:=600) bH (aQ qx) (by rfl) gT fA pd (fun b j x h=>by cases h) (fun S M nx K h=>by obtain⟨p,h⟩:=bR h;exact⟨p,(aa h).1,(aa h).2⟩) (fun p K h=>KS p K (aa h).1 (aa h).2)
structure nP where
 h:Value
 l:List aB
structure DG where
 z:Int
def ny (p:nP) (r:DG):Prop:=(0≤r.z↔¬∀x∈p.l,bA x)∧(r.z<0↔∀x∈p.l,bA x)
noncomputable def tD (p:nP):IE:=([.sy (.imm p.h 5 aB p.l aF),.fn 70 []],.leaf,0)
noncomputable def wj (p:nP) (K:KE):Bool:=ai fun r:DG=>iP (ny p r) (K (.sy (.int 0 r.z)) .leaf 0) true
def oq (p:nP):Prop:=p.l.length≤1000000
theorem EH {p:nP} {K:KE} (hK:wj p K=true) (r:DG) (h:ny p r):K (.sy (.int 0 r.z)) .leaf 0=true:=aq h (az hK r)
theorem OX (p:nP) (K:KE) (hpre:oq p) (hK:wj p K=true):(cw 0 (cj rv) uM 600 HO (tD p).1 (tD p).2.1 (tD p).2.2 K)=true:=by
 refine Eq.trans (b:=(aN fun p1:ej=>mP (((.cons 8 (.sy (.int 0 0)) (.cons 7 (.sy (.int 0 (p.l.length:Int))) (.cons 1 (.fn 70 []) (.cons 0 (.sy (.imm p.h 5 aB p.l aF)) .nil)))),.leaf,0)=gT p1) (mP (gY p1) (ac (iP (Bb p1) (K (.sy (.int 0 (-1))) .leaf 0) true) (ai fun r1:pz=>iP (yG p1 r1) (K (.sy (.int 0 r1.z)) .leaf 0) true))))) (by kernel_rfl) ?_
 dsimp only[oq]at hpre
 refine eX (⟨p.h,p.l,(0:Int)⟩:ej) rfl (by(try dsimp only[gY]);exact⟨hpre,by omega,by omega,fun j y h1 h2=>by omega⟩) ?_
 refine aE ?_ ?_
 refine iI (p:=∀x∈p.l,bA x) (fun hi1=> ?_) (fun _=>rfl)
 exact EH hK ⟨((-1):Int)⟩ (by dsimp only[ny]<;>(first|(simp_all;done)|(obtain⟨a,b⟩:=hi1;exact⟨⟨fun _=>b,fun _=>a⟩,⟨fun c=>absurd c (by omega),fun c=>absurd c b⟩⟩)))
 refine am (fun r1=> ?_)
 refine iI (p:=0≤r1.z∧¬∀x∈p.l,bA x) (fun hi2=> ?_) (fun _=>rfl)
 exact EH hK ⟨r1.z⟩ (by dsimp only[ny]<;>(first|(simp_all;done)|(obtain⟨a,b⟩:=hi2;exact⟨⟨fun _=>b,fun _=>a⟩,⟨fun c=>absurd c (by omega),fun c=>absurd c b⟩⟩)))
noncomputable def If:co:=kO (fun us M=>ZK us 1 70) (ck tD (dP oq wj)) Ah
theorem Qb:bS Tryz.prog 96 0 If:=eM (cM (f:=96) (k:=0) (lp:=uM) (lf:=600) bH (aQ qx) Jl (by rfl) (fun b j x h=>(cG LU (fun h=>(by cases h)) h)) fun p K h=>OX p K (aa h).1 (aa h).2) GJ
noncomputable def ry:=bN rv 0 If 96 [(0,23)]
theorem qy:aZ Tryz.prog ry:=aR Qb qx
def ft (l:List aB):Prop:=1≤l.length∧l.length≤4∧∀x∈l,bq x
def cS (o:aI):Prop:=(o.kind=0∧o.y=0∧o.i=0∧o.at_=0∧o.mask=0∧(0≤o.x∧o.x≤1099511627776)∧(0≤o.mode∧o.mode≤1099511627776)∧ft o.ps∧(∃p,o.ps[0]?=some p∧p.g=o.grp)∧∀p∈o.ps,bA p)∨(o.kind=1∧o.i=0∧o.at_=0∧o.mode=0∧o.mask=0∧o.grp=0∧o.ps=[]∧(0≤o.x∧o.x≤1099511627776)∧(0≤o.y∧o.y≤1099511627776))∨(o.kind=2∧o.x=0∧o.y=0∧o.at_=0∧o.mode=0∧o.mask=0∧o.grp=0∧o.ps=[]∧(0≤o.i∧o.i≤1099511627776))∨(o.kind=3∧o.x=0∧o.y=0∧o.at_=0∧o.mode=0∧o.mask=0∧o.grp=0∧o.ps=[]∧(0≤o.i∧o.i≤1099511627776))∨(o.kind=4∧o.x=0∧o.y=0∧o.at_=0∧o.mode=0∧o.mask=0∧o.grp=0∧o.ps=[]∧(0≤o.i∧o.i≤1099511627776))∨(o.kind=5∧o.x=0∧o.y=0∧o.mode=0∧o.grp=0∧o.ps=[]∧(0≤o.i∧o.i≤1099511627776)∧(0≤o.at_∧o.at_≤1099511627776))∨(o.kind=6∧o.y=0∧o.i=0∧o.at_=0∧o.mode=0∧o.mask=0∧o.grp=0∧o.ps=[]∧(0≤o.x∧o.x≤1099511627776))∨(o.kind=7∧o.i=0∧o.at_=0∧o.mode=0∧o.mask=0∧o.grp=0∧o.ps=[]∧(0≤o.x∧o.x≤1099511627776)∧(0≤o.y∧o.y≤1099511627776))∨(o.kind=8∧o.y=0∧o.i=0∧o.at_=0∧o.mode=0∧o.mask=0∧o.grp=0∧o.ps=[]∧(0≤o.x∧o.x≤1099511627776))∨(o.kind=9∧o.y=0∧o.i=0∧o.at_=0∧o.mode=0∧o.mask=0∧o.grp=0∧o.ps=[]∧(0≤o.x∧o.x≤1099511627776))∨(o.kind=10∧o.y=0∧o.i=0∧o.at_=0∧o.mode=0∧o.mask=0∧o.grp=0∧o.ps=[]∧(0≤o.x∧o.x≤1099511627776))∨(o.kind=11∧o.y=0∧o.i=0∧o.at_=0∧o.mode=0∧o.mask=0∧o.grp=0∧o.ps=[]∧(0≤o.x∧o.x≤1099511627776))
theorem Bg {o:aI} (h:o.kind=0):cS o↔o.y=0∧o.i=0∧o.at_=0∧o.mask=0∧(0≤o.x∧o.x≤1099511627776)∧(0≤o.mode∧o.mode≤1099511627776)∧ft o.ps∧(∃p,o.ps[0]?=some p∧p.g=o.grp)∧∀p∈o.ps,bA p:=by
 unfold cS
 rw[h]
 simp
theorem LD {o:aI} (h:o.kind=1):cS o↔o.i=0∧o.at_=0∧o.mode=0∧o.mask=0∧o.grp=0∧o.ps=[]∧(0≤o.x∧o.x≤1099511627776)∧(0≤o.y∧o.y≤1099511627776):=by
 unfold cS
 rw[h]
 simp
theorem LC {o:aI} (h:o.kind=2):cS o↔o.x=0∧o.y=0∧o.at_=0∧o.mode=0∧o.mask=0∧o.grp=0∧o.ps=[]∧(0≤o.i∧o.i≤1099511627776):=by
 unfold cS
 rw[h]
 simp
theorem LB {o:aI} (h:o.kind=3):cS o↔o.x=0∧o.y=0∧o.at_=0∧o.mode=0∧o.mask=0∧o.grp=0∧o.ps=[]∧(0≤o.i∧o.i≤1099511627776):=by
 unfold cS
 rw[h]
 simp
theorem LA {o:aI} (h:o.kind=4):cS o↔o.x=0∧o.y=0∧o.at_=0∧o.mode=0∧o.mask=0∧o.grp=0∧o.ps=[]∧(0≤o.i∧o.i≤1099511627776):=by
 unfold cS
 rw[h]
 simp
theorem Lz {o:aI} (h:o.kind=5):cS o↔o.x=0∧o.y=0∧o.mode=0∧o.grp=0∧o.ps=[]∧(0≤o.i∧o.i≤1099511627776)∧(0≤o.at_∧o.at_≤1099511627776):=by
 unfold cS
 rw[h]
 simp
theorem Ly {o:aI} (h:o.kind=6):cS o↔o.y=0∧o.i=0∧o.at_=0∧o.mode=0∧o.mask=0∧o.grp=0∧o.ps=[]∧(0≤o.x∧o.x≤1099511627776):=by
 unfold cS
 rw[h]
 simp
theorem Lx {o:aI} (h:o.kind=7):cS o↔o.i=0∧o.at_=0∧o.mode=0∧o.mask=0∧o.grp=0∧o.ps=[]∧(0≤o.x∧o.x≤1099511627776)∧(0≤o.y∧o.y≤1099511627776):=by
 unfold cS
 rw[h]
 simp
theorem Lw {o:aI} (h:o.kind=8):cS o↔o.y=0∧o.i=0∧o.at_=0∧o.mode=0∧o.mask=0∧o.grp=0∧o.ps=[]∧(0≤o.x∧o.x≤1099511627776):=by
 unfold cS
 rw[h]
 simp
theorem Lv {o:aI} (h:o.kind=9):cS o↔o.y=0∧o.i=0∧o.at_=0∧o.mode=0∧o.mask=0∧o.grp=0∧o.ps=[]∧(0≤o.x∧o.x≤1099511627776):=by
 unfold cS
 rw[h]
 simp
theorem Gm {o:aI} (h:o.kind=10):cS o↔o.y=0∧o.i=0∧o.at_=0∧o.mode=0∧o.mask=0∧o.grp=0∧o.ps=[]∧(0≤o.x∧o.x≤1099511627776):=by
 unfold cS
 rw[h]
 simp
theorem Gl {o:aI} (h:o.kind=11):cS o↔o.y=0∧o.i=0∧o.at_=0∧o.mode=0∧o.mask=0∧o.grp=0∧o.ps=[]∧(0≤o.x∧o.x≤1099511627776):=by
 unfold cS
 rw[h]
 simp
theorem Gk {o:aI} (h:¬(0≤o.kind∧o.kind≤11)):¬cS o:=by
 unfold cS
 intro q
 rcases q with⟨q,_⟩|⟨q,_⟩|⟨q,_⟩|⟨q,_⟩|⟨q,_⟩|⟨q,_⟩|⟨q,_⟩|⟨q,_⟩|⟨q,_⟩|⟨q,_⟩|⟨q,_⟩|⟨q,_⟩<;>omega
def xi:XC:=(.aft (.seq (.seq (g_ 8 [p_ 0 4 (m_ 3),p_ 1 5 (m_ 0),p_ 2 6 (k_ 5),p_ 3 7 (.bin 3 0 (.t 4) (.t 6)),p_ 4 8 (m_ 7),au 5 9 8 true (m_ 3),au 6 10 8 true (.bin 3 0 (.t 9) (i_ 10)),p_ 7 11 (.pick (.t 8) (.t 10) (.c (.bool false)))]) (.cond (.t 11) .skip (.exit 2))) (.seq (.block 3 (.seq (g_ 6 [p_ 0 14 (m_ 0),p_ 1 15 (m_ 3),p_ 2 16 (.ixs 5 (.t 14) (.t 15)),r_ 3 17 (.ld true 5 (.t 16)),c_ 4 18 104 [.t 17],p_ 5 19 (.un 0 (.t 18))]) (.cond (.t 19) (.seq (g_ 1 [p_ 0 2 (.mv (.c (.bool false)))]) .ret) .skip))) (g_ 3 [p_ 0 12 (m_ 3),p_ 1 13 (.bin 0 0 (.t 12) (i_ 1)),p_ 2 3 (m_ 13)]))) [(0,[.can 0 [0,3]]),(1,[.can 0 [2]]),(2,[.can 0 [0]])])
def Kf:XF:=.mk 28 (.one 2) (.aft (.seq (g_ 1 [p_ 0 2 (.mv (.c (.bool false)))]) (.seq (.seq (g_ 1 [p_ 0 3 (.mv (i_ 0))]) (.block 2 (.pre [.can 0 [0,3],.up 3,.can 0 [0,3]] (.inv 0 xi)))) (.seq (g_ 9 [p_ 0 20 (m_ 0),p_ 1 21 (k_ 20),p_ 2 22 (.bin 3 3 (.t 21) (i_ 1)),p_ 3 23 (m_ 22),au 4 24 23 true (m_ 0),au 5 25 23 true (k_ 24),au 6 26 23 true (.bin 3 1 (.t 25) (i_ 4)),p_ 7 27 (.pick (.t 23) (.t 26) (.c (.bool false))),p_ 8 2 (m_ 27)]) .ret))) [(0,[.up 2]),(1,[.up 2])])
theorem Md:ci Tryz.prog 86 Kf=true:=by kernel_rfl
structure eQ where
 h:Value
 l:List aB
 i:Int
def DO (p:eQ):Prop:=p.l.length≤10→∀x∈p.l,bq x
def AZ (p:eQ):Prop:=¬∀x∈p.l,bq x
noncomputable def iW (p:eQ):IL:=((.cons 3 (.sy (.int 0 p.i)) (.cons 0 (.sy (.imm p.h 5 aB p.l aF)) .nil)),.leaf,0)
noncomputable def uo (p:eQ) (K:KC):Bool:=ac (iP (DO p) (K 2 (.cons 0 (.sy (.imm p.h 5 aB p.l aF)) .nil) .leaf 0) true) (iP (AZ p) (K 1 (.cons 2 (.bool false) .nil) .leaf 0) true)
def iH (p:eQ):Prop:=p.l.length≤1000000∧0≤p.i∧p.i≤(p.l.length:Int)∧p.i≤10∧(∀x∈p.l,sR x)∧(∀(j:Nat) y,(j:Int)<p.i→p.l[j]?=some y→bq y)
noncomputable def ri (p:eQ) (K:KC):Bool:=ac (aC (iH p)) (uo p K)
noncomputable def xV:gO:=fun j S M nx K=>(Bool.rec (false) (aN fun p:eQ=>ac (aC ((S,M,nx)=iW p)) (ri p K)) (Nat.beq j 0))
def gH (p:eQ):Nat:=((p.l.length:Int) - p.i).toNat
noncomputable def EN (s:IL) (n:Nat) (K:KC):Bool:=aN fun q=>mP (s=iW q∧gH q<n) (ri q K)
theorem OA {p q:eQ} {K:KC} {s:IL} (hm:gH q<gH p:=by dsimp only[gH]<;>(omega)) (hp:iH q:=by dsimp only[iH]<;>(exact⟨g0,by omega,by omega,by omega,g4,vb g5 (by omega) hi3 (by simp_all)⟩)) (hK:uo q K=true:=by exact hK) (e:s=iW q:=by rfl):EN s (gH p) K=true:=bj q (bl ⟨e,hm⟩ (bl hp hK))
theorem MW (p:eQ) (K:KC) (hpre:iH p) (hK:uo p K=true):(df (cj ry) xV 600 xi (iW p).1 (iW p).2.1 (iW p).2.2 (fun e S M nx=>Nat.casesOn e (aN fun q:eQ=>ac (aC ((S,M,nx)=iW q∧gH q<gH p)) (ri q K)) (fun e2=>K (Nat.succ e2) S M nx)))=true:=by
 refine Eq.trans (b:=(iP (p.i<(p.l.length:Int)) (iP (p.i<(10:Int)) (mP (0≤p.i∧p.i<(p.l.length:Int)) (ai fun x1:aB=>iP (p.l[p.i.toNat]?=some x1) (aH (([.agg [.sy (.int 1 x1.g),.sy (.int 1 x1.k),.sy (.str x1.key),.sy (.str x1.val),.sy (.int 0 x1.n)]],.leaf,0)) yt nr ec fun p1 r1=>iP (¬r1.q) (K 1 (.cons 2 (.bool false) .nil) .leaf 0) (mP (bb 0 (p.i+(1:Int))) (EN ((.cons 3 (.sy (.int 0 (p.i+(1:Int)))) (.cons 0 (.sy (.imm p.h 5 aB p.l aF)) .nil)),.leaf,0) (gH p) K))) true)) (K 2 (.cons 0 (.sy (.imm p.h 5 aB p.l aF)) .nil) .leaf 0)) (K 2 (.cons 0 (.sy (.imm p.h 5 aB p.l aF)) .nil) .leaf 0))) (by kernel_rfl) ?_
 obtain⟨hK0,hKr0⟩:=aj hK
 have hK1:=hKr0
 dsimp only[iH]at hpre
 obtain⟨g0,g1,g2,g3,g4,g5⟩:=hpre
 refine iI (fun hc1=> ?_) (fun hc1=> ?_)
 refine iI (fun hc2=> ?_) (fun hc2=> ?_)
 refine bC ?_
 refine am (fun x1=> ?_)
 refine iI (fun hi3=> ?_) (fun _=>rfl)
 have hg_x1:=g4 _ (aaG (by assumption:p.l[p.i.toNat]?=some x1))
 refine ay (⟨x1⟩:rT) rfl (by(try dsimp only[nr]);assumption) fun r1 hi4=> ?_
 dsimp only[ec]at hi4
 refine iI (fun hc5=> ?_) (fun hc5=> ?_)
 exact aq (show¬∀x∈p.l,bq x from(by exact Cb hi3 (by simp_all))) hK1
 refine fe ?_
 exact OA (q:=⟨p.h,p.l,p.i+(1:Int)⟩)
 exact aq (show p.l.length≤10→∀x∈p.l,bq x from(by intro z;exact tv g5 (by omega))) hK0
 exact aq (show p.l.length≤10→∀x∈p.l,bq x from(by intro z;exact tv g5 (by omega))) hK0
theorem NP:dR Tryz.prog 28 0 xV true 0 xi:=by
 exact gm (lf:=600) bH (aQ qy) (by rfl) iW gH ri (fun b j x h=>by cases h) (fun S M nx K h=>by obtain⟨p,h⟩:=bR h;exact⟨p,(aa h).1,(aa h).2⟩) (fun p K h=>MW p K (aa h).1 (aa h).2)
structure ra where
 h:Value
 l:List aB
structure IH where
 q:Prop
def nv (p:ra) (r:IH):Prop:=r.q↔ft p.l
noncomputable def xw (p:ra):IE:=([.sy (.imm p.h 5 aB p.l aF)],.leaf,0)
noncomputable def zG (p:ra) (K:KE):Bool:=ai fun r:IH=>iP (nv p r) (K (.sy (.bool r.q)) .leaf 0) true
def qa (p:ra):Prop:=p.l.length≤1000000∧∀x∈p.l,sR x
theorem zY {p:ra} {K:KE} (hK:zG p K=true) (r:IH) (h:nv p r):K (.sy (.bool r.q)) .leaf 0=true:=aq h (az hK r)
theorem RW (p:ra) (K:KE) (hpre:qa p) (hK:zG p K=true):(cw 0 (cj ry) xV 600 Kf (xw p).1 (xw p).2.1 (xw p).2.2 K)=true:=by
 refine Eq.trans (b:=(aN fun p1:eQ=>mP (((.cons 3 (.sy (.int 0 0)) (.cons 0 (.sy (.imm p.h 5 aB p.l aF)) .nil)),.leaf,0)=iW p1) (mP (iH p1) (ac (iP (DO p1) (iP ((1:Int)≤(p1.l.length:Int)) (K (.sy (.bool ((p1.l.length:Int)≤(4:Int)))) .leaf 0) (K (.sy (.bool (false=true))) .leaf 0)) true) (iP (AZ p1) (K (.sy (.bool (false=true))) .leaf 0) true))))) (by kernel_rfl) ?_
 dsimp only[qa]at hpre
 refine eX (⟨p.h,p.l,(0:Int)⟩:eQ) rfl (by(try dsimp only[iH]);exact⟨hpre.1,by omega,by omega,by omega,hpre.2,fun j y h1 h2=>by omega⟩) ?_
 refine aE ?_ ?_
 refine iI (p:=p.l.length≤10→∀x∈p.l,bq x) (fun hi1=> ?_) (fun _=>rfl)
 refine iI (p:=(1:Int)≤(p.l.length:Int)) (fun hc2=> ?_) (fun hc2=> ?_)
 exact zY hK ⟨(p.l.length:Int)≤(4:Int)⟩ (by dsimp only[nv]<;>(unfold ft;first|(refine⟨fun h=>⟨by omega,by omega,hi1 (by omega)⟩,fun h=> ?_⟩;omega)|(have e:=hi1 (by omega);simp_all;done)|(have e:=hi1 (by omega);constructor<;>intro h<;>simp_all<;>omega)|(constructor<;>intro h<;>simp_all<;>omega)|(simp_all;done)|(simp_all;omega)))
 exact zY hK ⟨false=true⟩ (by dsimp only[nv]<;>(unfold ft;first|(refine⟨fun h=>⟨by omega,by omega,hi1 (by omega)⟩,fun h=> ?_⟩;omega)|(have e:=hi1 (by omega);simp_all;done)|(have e:=hi1 (by omega);constructor<;>intro h<;>simp_all<;>omega)|(constructor<;>intro h<;>simp_all<;>omega)|(simp_all;done)|(simp_all;omega)))
 refine iI (p:=¬∀x∈p.l,bq x) (fun hi3=> ?_) (fun _=>rfl)
 exact zY hK ⟨false=true⟩ (by dsimp only[nv]<;>(unfold ft;first|(refine⟨fun h=>⟨by omega,by omega,hi3 (by omega)⟩,fun h=> ?_⟩;omega)|(have e:=hi3 (by omega);simp_all;done)|(have e:=hi3 (by omega);constructor<;>intro h<;>simp_all<;>omega)|(constructor<;>intro h<;>simp_all<;>omega)|(simp_all;done)|(simp_all;omega)))
noncomputable def zN:=bN ry 0 (ck xw (dP qa zG)) 86 [(0,23)]
theorem yJ:aZ Tryz.prog zN:=aR (cM (f:=86) (k:=0) (lp:=xV) (lf:=600) bH (aQ qy) Md (by rfl) (fun b j x h=>(cG NP (fun h=>(by cases h)) h)) fun p K h=>RW p K (aa h).1 (aa h).2) qy
def BI:XF:=.mk 26 (.one 4) (.aft (.seq (g_ 1 [p_ 0 4 (.mv (.c (.bool false)))]) (.seq (.seq (g_ 5 [p_ 0 6 (m_ 0),p_ 1 7 (k_ 6),p_ 2 8 (m_ 1),p_ 3 9 (k_ 8),p_ 4 10 (.bin 3 5 (.t 7) (.t 9))]) (.cond (.t 10) (.seq (g_ 1 [p_ 0 4 (.mv (.c (.bool false)))]) .ret) .skip)) (.seq (.seq (g_ 3 [p_ 0 11 (m_ 0),p_ 1 12 (k_ 11),p_ 2 13 (.mv (i_ 0))]) (.block 2 (.loop [0,1,4,5,12,13,14,15,16,17,18,19,20,21,22,23,24,25] (.seq (g_ 1 [p_ 0 14 (.bin 3 0 (.t 13) (.t 12))]) (.seq (.cond (.t 14) .skip (.exit 2)) (.seq (.block 3 (.seq (g_ 2 [p_ 0 15 (m_ 13),p_ 1 5 (m_ 15)]) (.seq (h_ 9 [p_ 0 16 (m_ 0),p_ 1 17 (m_ 5),p_ 2 18 (.ixs 5 (.t 16) (.t 17)),r_ 3 19 (.ld true 5 (.t 18)),p_ 4 20 (m_ 1),p_ 5 21 (m_ 5),p_ 6 22 (.ixs 5 (.t 20) (.t 21)),r_ 7 23 (.ld true 5 (.t 22)),p_ 8 24 (.eqs true 2 (.st [(0,1,false,.int),(1,1,false,.int),(2,1,false,.str),(3,1,false,.str),(4,1,false,.int)]) (.t 19) (.t 23))]) (.cond (.t 24) (.seq (g_ 1 [p_ 0 4 (.mv (.c (.bool false)))]) .ret) .skip)))) (g_ 2 [p_ 0 25 (.bin 0 0 (.t 13) (i_ 1)),p_ 1 13 (m_ 25)]))))))) (.seq (g_ 1 [p_ 0 4 (.mv (.c (.bool true)))]) .ret)))) [(0,[.up 4]),(1,[.up 4])])
theorem Fa:ci Tryz.prog 98 BI=true:=by kernel_rfl
structure bG where
 h:Value
 l:List aB
structure dN where
 q:Prop
def bw (p:bG) (r:dN):Prop:=r.q↔p.l=[]
noncomputable def dy (p:bG):IE:=([.sy (.imm p.h 5 aB p.l aF),.nilS],.leaf,0)
noncomputable def sr (p:bG) (K:KE):Bool:=ai fun r:dN=>iP (bw p r) (K (.sy (.bool r.q)) .leaf 0) true
theorem yX {p:bG} {K:KE} (hK:sr p K=true) (r:dN) (h:bw p r):K (.sy (.bool r.q)) .leaf 0=true:=aq h (az hK r)
theorem KN (p:bG) (K:KE) (hK:sr p K=true):(cw 0 (cj zN) dC 600 BI (dy p).1 (dy p).2.1 (dy p).2.2 K)=true:=by
 refine Eq.trans (b:=(iP (¬(p.l.length:Int)=(0:Int)) (K (.sy (.bool (false=true))) .leaf 0) (iP ((0:Int)<(p.l.length:Int)) (mP (0≤(0:Int)∧(0:Int)<(p.l.length:Int)) (ai fun x1:aB=>iP (p.l[0]?=some x1) (false) true)) (K (.sy (.bool (true=true))) .leaf 0)))) (by kernel_rfl) ?_
 refine iI (fun hc1=> ?_) (fun hc1=> ?_)
 exact yX hK ⟨false=true⟩ (by dsimp only[bw]<;>(first|(simp_all;done)|(simp;intro e;simp[e]at*;done)|(simp;exact aaX (by omega))))
 refine iI (fun hc2=> ?_) (fun hc2=> ?_)
 refine bC ?_
 refine am (fun x1=> ?_)
 refine iI (fun hi3=> ?_) (fun _=>rfl)
 exfalso;omega
 exact yX hK ⟨true=true⟩ (by dsimp only[bw]<;>(first|(simp_all;done)|(simp;intro e;simp[e]at*;done)|(simp;exact aaX (by omega))))
noncomputable def sD:=bN zN 0 (ck dy sr) 98 [(0,23),(1,8)]
theorem sZ:aZ Tryz.prog sD:=aR (nD (f:=98) (k:=0) (aQ yJ) Fa (by rfl) (by rfl) KN) yJ
def Er:XF:=.mk 26 (.one 4) (.aft (.seq (g_ 1 [p_ 0 4 (.mv (.c (.bool false)))]) (.seq (.seq (g_ 5 [p_ 0 6 (m_ 0),p_ 1 7 (k_ 6),p_ 2 8 (m_ 1),p_ 3 9 (k_ 8),p_ 4 10 (.bin 3 5 (.t 7) (.t 9))]) (.cond (.t 10) (.seq (g_ 1 [p_ 0 4 (.mv (.c (.bool false)))]) .ret) .skip)) (.seq (.seq (g_ 1 [p_ 0 5 (.mv (i_ 0))]) (.block 2 (.loop [0,1,4,5,11,12,13,14,15,16,17,18,19,20,21,22,23,24,25] (.seq (.seq (g_ 4 [p_ 0 11 (m_ 5),p_ 1 12 (m_ 0),p_ 2 13 (k_ 12),p_ 3 14 (.bin 3 0 (.t 11) (.t 13))]) (.cond (.t 14) .skip (.exit 2))) (.seq (.block 3 (.seq (h_ 9 [p_ 0 17 (m_ 0),p_ 1 18 (m_ 5),p_ 2 19 (.ixs 5 (.t 17) (.t 18)),r_ 3 20 (.ld true 5 (.t 19)),p_ 4 21 (m_ 1),p_ 5 22 (m_ 5),p_ 6 23 (.ixs 5 (.t 21) (.t 22)),r_ 7 24 (.ld true 5 (.t 23)),p_ 8 25 (.eqs true 2 (.st [(0,1,false,.int),(1,1,false,.int),(2,1,false,.str),(3,1,false,.str),(4,1,false,.int)]) (.t 20) (.t 24))]) (.cond (.t 25) (.seq (g_ 1 [p_ 0 4 (.mv (.c (.bool false)))]) .ret) .skip))) (g_ 3 [p_ 0 15 (m_ 5),p_ 1 16 (.bin 0 0 (.t 15) (i_ 1)),p_ 2 5 (m_ 16)])))))) (.seq (g_ 1 [p_ 0 4 (.mv (.c (.bool true)))]) .ret)))) [(0,[.up 4]),(1,[.up 4])])
theorem Hx:ci Tryz.prog 55 Er=true:=by kernel_rfl
structure ca where
 h:Value
 l:List aB
structure eD where
 q:Prop
def bK (p:ca) (r:eD):Prop:=r.q↔p.l=[]
noncomputable def dY (p:ca):IE:=([.nilS,.sy (.imm p.h 5 aB p.l aF)],.leaf,0)
noncomputable def uf (p:ca) (K:KE):Bool:=ai fun r:eD=>iP (bK p r) (K (.sy (.bool r.q)) .leaf 0) true
theorem BK {p:ca} {K:KE} (hK:uf p K=true) (r:eD) (h:bK p r):K (.sy (.bool r.q)) .leaf 0=true:=aq h (az hK r)
theorem MM (p:ca) (K:KE) (hK:uf p K=true):(cw 0 (cj sD) dC 600 Er (dY p).1 (dY p).2.1 (dY p).2.2 K)=true:=by
 refine Eq.trans (b:=(iP (¬(0:Int)=(p.l.length:Int)) (K (.sy (.bool (false=true))) .leaf 0) (K (.sy (.bool (true=true))) .leaf 0))) (by kernel_rfl) ?_
 refine iI (fun hc1=> ?_) (fun hc1=> ?_)
 exact BK hK ⟨false=true⟩ (by dsimp only[bK]<;>(first|(simp_all;done)|(simp;intro e;simp[e]at*;done)|(simp;exact aaX (by omega))))
 exact BK hK ⟨true=true⟩ (by dsimp only[bK]<;>(first|(simp_all;done)|(simp;intro e;simp[e]at*;done)|(simp;exact aaX (by omega))))
noncomputable def uz:=bN sD 0 (ck dY uf) 55 [(0,8),(1,23)]
theorem vp:aZ Tryz.prog uz:=aR (nD (f:=55) (k:=0) (aQ sZ) Hx (by rfl) (by rfl) MM) sZ
def BA:XF:=.mk 14 (.one 2) (.seq (g_ 1 [p_ 0 2 (.mv (.c (.str [])))]) (.seq (g_ 3 [p_ 0 4 (.bld [.str [],.str [],.str [],.str [],.str [],.str [],.str [],.str [],.str [],.str [],.str [],.str []] [(0,1),(1,1),(2,1),(3,1),(4,1),(5,1),(6,1),(7,1),(8,1),(9,1),(10,1),(11,1)] [.c (.str [105,110,118,111,107,101]),.c (.str [115,108,97,121]),.c (.str [100,101,108,105,118,101,114]),.c (.str [100,114,111,112]),.c (.str [116,119,105,99,101]),.c (.str [115,112,111,105,108]),.c (.str [116,105,99,107]),.c (.str [115,117,115,112,101,99,116]),.c (.str [99,114,97,115,104]),.c (.str [114,101,115,116,97,114,116]),.c (.str [106,111,105,110]),.c (.str [108,101,97,118,101])]),e_ 1 3 (.al 154 [.str [],.str [],.str [],.str [],.str [],.str [],.str [],.str [],.str [],.str [],.str [],.str []]),bd 2 (.st 12 (.t 3) (.t 4))]) (.seq (.seq (g_ 6 [p_ 0 5 (m_ 0),p_ 1 6 (.bin 3 0 (.t 5) (i_ 0)),p_ 2 7 (m_ 6),au 3 8 7 false (m_ 0),au 4 9 7 false (.bin 3 3 (.t 8) (i_ 12)),p_ 5 10 (.pick (.t 7) (.c (.bool true)) (.t 9))]) (.cond (.t 10) (.seq (g_ 1 [p_ 0 2 (.mv (.c (.str [])))]) .ret) .skip)) (.seq (g_ 4 [p_ 0 11 (m_ 0),p_ 1 12 (.ixa 12 1 (.t 3) (.t 11)),r_ 2 13 (l_ 12),p_ 3 2 (m_ 13)]) .ret))))
theorem EW:ci Tryz.prog 62 BA=true:=by kernel_rfl
structure mg where
 k:Int
noncomputable def oH (p:mg):IE:=([.sy (.int 0 p.k)],.leaf,0)
noncomputable def yI (p:mg) (K:KE):Bool:=K (.str []) .leaf 0
def kU (p:mg):Prop:=¬(0≤p.k∧p.k≤11)
theorem KI (p:mg) (K:KE) (hpre:kU p) (hK:yI p K=true):(cw 0 (cj uz) dC 600 BA (oH p).1 (oH p).2.1 (oH p).2.2 K)=true:=by
 refine Eq.trans (b:=(iP (p.k<(0:Int)) (K (.str []) .leaf 0) (iP ((12:Int)≤p.k) (K (.str []) .leaf 0) (iP (p.k=0) (K (.str [105,110,118,111,107,101]) .leaf 0) (iP (p.k=1) (K (.str [115,108,97,121]) .leaf 0) (iP (p.k=2) (K (.str [100,101,108,105,118,101,114]) .leaf 0) (iP (p.k=3) (K (.str [100,114,111,112]) .leaf 0) (iP (p.k=4) (K (.str [116,119,105,99,101]) .leaf 0) (iP (p.k=5) (K (.str [115,112,111,105,108]) .leaf 0) (iP (p.k=6) (K (.str [116,105,99,107]) .leaf 0) (iP (p.k=7) (K (.str [115,117,115,112,101,99,116]) .leaf 0) (iP (p.k=8) (K (.str [99,114,97,115,104]) .leaf 0) (iP (p.k=9) (K (.str [114,101,115,116,97,114,116]) .leaf 0) (iP (p.k=10) (K (.str [106,111,105,110]) .leaf 0) (iP (p.k=11) (K (.str [108,101,97,118,101]) .leaf 0) (mP (False) (true))))))))))))))))) (by kernel_rfl) ?_
 dsimp only[kU]at hpre
 refine iI (fun hc1=> ?_) (fun hc1=> ?_)
 exact hK
 refine iI (fun hc2=> ?_) (fun hc2=> ?_)
 exact hK
 refine iI (fun hc3=> ?_) (fun hc3=> ?_)
 exfalso;omega
 refine iI (fun hc4=> ?_) (fun hc4=> ?_)
 exfalso;omega
 refine iI (fun hc5=> ?_) (fun hc5=> ?_)
 exfalso;omega
 refine iI (fun hc6=> ?_) (fun hc6=> ?_)
 exfalso;omega
 refine iI (fun hc7=> ?_) (fun hc7=> ?_)
 exfalso;omega
 refine iI (fun hc8=> ?_) (fun hc8=> ?_)
 exfalso;omega
 refine iI (fun hc9=> ?_) (fun hc9=> ?_)
 exfalso;omega
 refine iI (fun hc10=> ?_) (fun hc10=> ?_)
 exfalso;omega
 refine iI (fun hc11=> ?_) (fun hc11=> ?_)
 exfalso;omega
 refine iI (fun hc12=> ?_) (fun hc12=> ?_)
 exfalso;omega
 refine iI (fun hc13=> ?_) (fun hc13=> ?_)
 exfalso;omega
 refine iI (fun hc14=> ?_) (fun hc14=> ?_)
 exfalso;omega
 refine ed ?_
 rfl
noncomputable def su:=bN uz 0 (ck oH (dP kU yI)) 62 [(0,20)]
theorem sV:aZ Tryz.prog su:=aR (cJ (f:=62) (k:=0) (aQ vp) EW (by rfl) (by rfl) KI) vp
def yT:XF:=.mk 24 (.two 2 3) (.seq (g_ 2 [p_ 0 2 (.mv (.c (.str []))),p_ 1 3 (.mv (.c (.str [])))]) (.seq (g_ 2 [e_ 0 6 (.bsl 9 1 12 [.str [],.str [],.str [],.str [],.str [],.str [],.str [],.str [],.str [],.str [],.str [],.str []] [(0,1),(1,1),(2,1),(3,1),(4,1),(5,1),(6,1),(7,1),(8,1),(9,1),(10,1),(11,1)] [.c (.str [105,110,118,111,107,101]),.c (.str [115,108,97,121]),.c (.str [100,101,108,105,118,101,114]),.c (.str [100,114,111,112]),.c (.str [116,119,105,99,101]),.c (.str [115,112,111,105,108]),.c (.str [116,105,99,107]),.c (.str [115,117,115,112,101,99,116]),.c (.str [99,114,97,115,104]),.c (.str [114,101,115,116,97,114,116]),.c (.str [106,111,105,110]),.c (.str [108,101,97,118,101])]),p_ 1 4 (m_ 6)]) (.seq (g_ 2 [e_ 0 7 (.bsl 9 1 12 [.str [],.str [],.str [],.str [],.str [],.str [],.str [],.str [],.str [],.str [],.str [],.str []] [(0,1),(1,1),(2,1),(3,1),(4,1),(5,1),(6,1),(7,1),(8,1),(9,1),(10,1),(11,1)] [.c (.str [120,109]),.c (.str [120,121]),.c (.str [105]),.c (.str [105]),.c (.str [105]),.c (.str [105,97,107]),.c (.str [120]),.c (.str [120,121]),.c (.str [120]),.c (.str [120]),.c (.str [120]),.c (.str [120])]),p_ 1 5 (m_ 7)]) (.seq (.seq (g_ 8 [p_ 0 8 (m_ 0),p_ 1 9 (.bin 3 0 (.t 8) (i_ 0)),p_ 2 10 (m_ 9),au 3 11 10 false (m_ 0),au 4 12 10 false (m_ 4),au 5 13 10 false (k_ 12),au 6 14 10 false (.bin 3 3 (.t 11) (.t 13)),p_ 7 15 (.pick (.t 10) (.c (.bool true)) (.t 14))]) (.cond (.t 15) (.seq (g_ 2 [p_ 0 2 (.mv (.c (.str []))),p_ 1 3 (.mv (.c (.str [])))]) .ret) .skip)) (.seq (h_ 10 [p_ 0 16 (m_ 4),p_ 1 17 (m_ 0),p_ 2 18 (.ixs 1 (.t 16) (.t 17)),r_ 3 19 (l_ 18),p_ 4 20 (m_ 5),p_ 5 21 (m_ 0),p_ 6 22 (.ixs 1 (.t 20) (.t 21)),r_ 7 23 (l_ 22),p_ 8 2 (m_ 19),p_ 9 3 (m_ 23)]) .ret)))))
theorem Dd:ci Tryz.prog 51 yT=true:=by kernel_rfl
structure kJ where
 k:Int
noncomputable def mY (p:kJ):IE:=([.sy (.int 0 p.k)],.leaf,0)
noncomputable def vM (p:kJ) (K:KE):Bool:=K (.tup [.str [],.str []]) .leaf 0
def ju (p:kJ):Prop:=¬(0≤p.k∧p.k≤11)
theorem IP (p:kJ) (K:KE) (hpre:ju p) (hK:vM p K=true):(cw 0 (cj su) dC 600 yT (mY p).1 (mY p).2.1 (mY p).2.2 K)=true:=by
 refine Eq.trans (b:=(let z0:Bool:=(K (.tup [.str [100,101,108,105,118,101,114],.str [120]]) .leaf 0);let z1:Bool:=(K (.tup [.str [115,117,115,112,101,99,116],.str [120]]) .leaf 0);let z2:Bool:=(K (.tup [.str [114,101,115,116,97,114,116],.str [120]]) .leaf 0);let z3:Bool:=(K (.tup [.str [105,110,118,111,107,101],.str [120]]) .leaf 0);let z4:Bool:=(K (.tup [.str [115,112,111,105,108],.str [120]]) .leaf 0);let z5:Bool:=(K (.tup [.str [116,119,105,99,101],.str [120]]) .leaf 0);let z6:Bool:=(K (.tup [.str [108,101,97,118,101],.str [120]]) .leaf 0);let z7:Bool:=(K (.tup [.str [99,114,97,115,104],.str [120]]) .leaf 0);let z8:Bool:=(K (.tup [.str [100,114,111,112],.str [120]]) .leaf 0);let z9:Bool:=(K (.tup [.str [106,111,105,110],.str [120]]) .leaf 0);let z10:Bool:=(K (.tup [.str [115,108,97,121],.str [120]]) .leaf 0);let z11:Bool:=(K (.tup [.str [116,105,99,107],.str [120]]) .leaf 0);let z12:Bool:=(K (.tup [.str [100,101,108,105,118,101,114],.str [105]]) .leaf 0);let z13:Bool:=(K (.tup [.str [115,117,115,112,101,99,116],.str [105]]) .leaf 0);let z14:Bool:=(K (.tup [.str [114,101,115,116,97,114,116],.str [105]]) .leaf 0);let z15:Bool:=(K (.tup [.str [105,110,118,111,107,101],.str [105]]) .leaf 0);let z16:Bool:=(K (.tup [.str [115,112,111,105,108],.str [105]]) .leaf 0);let z17:Bool:=(K (.tup [.str [116,119,105,99,101],.str [105]]) .leaf 0);let z18:Bool:=(K (.tup [.str [108,101,97,118,101],.str [105]]) .leaf 0);let z19:Bool:=(K (.tup [.str [99,114,97,115,104],.str [105]]) .leaf 0);let z20:Bool:=(K (.tup [.str [100,114,111,112],.str [105]]) .leaf 0);let z21:Bool:=(K (.tup [.str [106,111,105,110],.str [105]]) .leaf 0);let z22:Bool:=(K (.tup [.str [115,108,97,121],.str [105]]) .leaf 0);let z23:Bool:=(K (.tup [.str [116,105,99,107],.str [105]]) .leaf 0);let z24:Bool:=(K (.tup [.str [100,101,108,105,118,101,114],.str [120,121]]) .leaf 0);let z25:Bool:=(K (.tup [.str [115,117,115,112,101,99,116],.str [120,121]]) .leaf 0);let z26:Bool:=(K (.tup [.str [114,101,115,116,97,114,116],.str [120,121]]) .leaf 0);let z27:Bool:=(K (.tup [.str [105,110,118,111,107,101],.str [120,121]]) .leaf 0);let z28:Bool:=(K (.tup [.str [115,112,111,105,108],.str [120,121]]) .leaf 0);let z29:Bool:=(K (.tup [.str [116,119,105,99,101],.str [120,121]]) .leaf 0);let z30:Bool:=(K (.tup [.str [108,101,97,118,101],.str [120,121]]) .leaf 0);let z31:Bool:=(K (.tup [.str [99,114,97,115,104],.str [120,121]]) .leaf 0);let z32:Bool:=(K (.tup [.str [100,114,111,112],.str [120,121]]) .leaf 0);let z33:Bool:=(K (.tup [.str [106,111,105,110],.str [120,121]]) .leaf 0);let z34:Bool:=(K (.tup [.str [115,108,97,121],.str [120,121]]) .leaf 0);let z35:Bool:=(K (.tup [.str [116,105,99,107],.str [120,121]]) .leaf 0);iP (p.k<(0:Int)) (K (.tup [.str [],.str []]) .leaf 0) (iP ((12:Int)≤p.k) (K (.tup [.str [],.str []]) .leaf 0) (iP (p.k=0) (iP (p.k=0) (K (.tup [.str [105,110,118,111,107,101],.str [120,109]]) .leaf 0) (iP (p.k=1) z27 (iP (p.k=2) z15 (iP (p.k=3) z15 (iP (p.k=4) z15 (iP (p.k=5) (K (.tup [.str [105,110,118,111,107,101],.str [105,97,107]]) .leaf 0) (iP (p.k=6) z3 (iP (p.k=7) z27 (iP (p.k=8) z3 (iP (p.k=9) z3 (iP (p.k=10) z3 (iP (p.k=11) z3 (mP (False) (true)))))))))))))) (iP (p.k=1) (iP (p.k=0) (K (.tup [.str [115,108,97,121],.str [120,109]]) .leaf 0) (iP (p.k=1) z34 (iP (p.k=2) z22 (iP (p.k=3) z22 (iP (p.k=4) z22 (iP (p.k=5) (K (.tup [.str [115,108,97,121],.str [105,97,107]]) .leaf 0) (iP (p.k=6) z10 (iP (p.k=7) z34 (iP (p.k=8) z10 (iP (p.k=9) z10 (iP (p.k=10) z10 (iP (p.k=11) z10 (mP (False) (true)))))))))))))) (iP (p.k=2) (iP (p.k=0) (K (.tup [.str [100,101,108,105,118,101,114],.str [120,109]]) .leaf 0) (iP (p.k=1) z24 (iP (p.k=2) z12 (iP (p.k=3) z12 (iP (p.k=4) z12 (iP (p.k=5) (K (.tup [.str [100,101,108,105,118,101,114],.str [105,97,107]]) .leaf 0) (iP (p.k=6) z0 (iP (p.k=7) z24 (iP (p.k=8) z0 (iP (p.k=9) z0 (iP (p.k=10) z0 (iP (p.k=11) z0 (mP (False) (true)))))))))))))) (iP (p.k=3) (iP (p.k=0) (K (.tup [.str [100,114,111,112],.str [120,109]]) .leaf 0) (iP (p.k=1) z32 (iP (p.k=2) z20 (iP (p.k=3) z20 (iP (p.k=4) z20 (iP (p.k=5) (K (.tup [.str [100,114,111,112],.str [105,97,107]]) .leaf 0) (iP (p.k=6) z8 (iP (p.k=7) z32 (iP (p.k=8) z8 (iP (p.k=9) z8 (iP (p.k=10) z8 (iP (p.k=11) z8 (mP (False) (true)))))))))))))) (iP (p.k=4) (iP (p.k=0) (K (.tup [.str [116,119,105,99,101],.str [120,109]]) .leaf 0) (iP (p.k=1) z29 (iP (p.k=2) z17 (iP (p.k=3) z17 (iP (p.k=4) z17 (iP (p.k=5) (K (.tup [.str [116,119,105,99,101],.str [105,97,107]]) .leaf 0) (iP (p.k=6) z5 (iP (p.k=7) z29 (iP (p.k=8) z5 (iP (p.k=9) z5 (iP (p.k=10) z5 (iP (p.k=11) z5 (mP (False) (true)))))))))))))) (iP (p.k=5) (iP (p.k=0) (K (.tup [.str [115,112,111,105,108],.str [120,109]]) .leaf 0) (iP (p.k=1) z28 (iP (p.k=2) z16 (iP (p.k=3) z16 (iP (p.k=4) z16 (iP (p.k=5) (K (.tup [.str [115,112,111,105,108],.str [105,97,107]]) .leaf 0) (iP (p.k=6) z4 (iP (p.k=7) z28 (iP (p.k=8) z4 (iP (p.k=9) z4 (iP (p.k=10) z4 (iP (p.k=11) z4 (mP (False) (true)))))))))))))) (iP (p.k=6) (iP (p.k=0) (K (.tup [.str [116,105,99,107],.str [120,109]]) .leaf 0) (iP (p.k=1) z35 (iP (p.k=2) z23 (iP (p.k=3) z23 (iP (p.k=4) z23 (iP (p.k=5) (K (.tup [.str [116,105,99,107],.str [105,97,107]]) .leaf 0) (iP (p.k=6) z11 (iP (p.k=7) z35 (iP (p.k=8) z11 (iP (p.k=9) z11 (iP (p.k=10) z11 (iP (p.k=11) z11 (mP (False) (true)))))))))))))) (iP (p.k=7) (iP (p.k=0) (K (.tup [.str [115,117,115,112,101,99,116],.str [120,109]]) .leaf 0) (iP (p.k=1) z25 (iP (p.k=2) z13 (iP (p.k=3) z13 (iP (p.k=4) z13 (iP (p.k=5) (K (.tup [.str [115,117,115,112,101,99,116],.str [105,97,107]]) .leaf 0) (iP (p.k=6) z1 (iP (p.k=7) z25 (iP (p.k=8) z1 (iP (p.k=9) z1 (iP (p.k=10) z1 (iP (p.k=11) z1 (mP (False) (true)))))))))))))) (iP (p.k=8) (iP (p.k=0) (K (.tup [.str [99,114,97,115,104],.str [120,109]]) .leaf 0) (iP (p.k=1) z31 (iP (p.k=2) z19 (iP (p.k=3) z19 (iP (p.k=4) z19 (iP (p.k=5) (K (.tup [.str [99,114,97,115,104],.str [105,97,107]]) .leaf 0) (iP (p.k=6) z7 (iP (p.k=7) z31 (iP (p.k=8) z7 (iP (p.k=9) z7 (iP (p.k=10) z7 (iP (p.k=11) z7 (mP (False) (true)))))))))))))) (iP (p.k=9) (iP (p.k=0) (K (.tup [.str [114,101,115,116,97,114,116],.str [120,109]]) .leaf 0) (iP (p.k=1) z26 (iP (p.k=2) z14 (iP (p.k=3) z14 (iP (p.k=4) z14 (iP (p.k=5) (K (.tup [.str [114,101,115,116,97,114,116],.str [105,97,107]]) .leaf 0) (iP (p.k=6) z2 (iP (p.k=7) z26 (iP (p.k=8) z2 (iP (p.k=9) z2 (iP (p.k=10) z2 (iP (p.k=11) z2 (mP (False) (true)))))))))))))) (iP (p.k=10) (iP (p.k=0) (K (.tup [.str [106,111,105,110],.str [120,109]]) .leaf 0) (iP (p.k=1) z33 (iP (p.k=2) z21 (iP (p.k=3) z21 (iP (p.k=4) z21 (iP (p.k=5) (K (.tup [.str [106,111,105,110],.str [105,97,107]]) .leaf 0) (iP (p.k=6) z9 (iP (p.k=7) z33 (iP (p.k=8) z9 (iP (p.k=9) z9 (iP (p.k=10) z9 (iP (p.k=11) z9 (mP (False) (true)))))))))))))) (iP (p.k=11) (iP (p.k=0) (K (.tup [.str [108,101,97,118,101],.str [120,109]]) .leaf 0) (iP (p.k=1) z30 (iP (p.k=2) z18 (iP (p.k=3) z18 (iP (p.k=4) z18 (iP (p.k=5) (K (.tup [.str [108,101,97,118,101],.str [105,97,107]]) .leaf 0) (iP (p.k=6) z6 (iP (p.k=7) z30 (iP (p.k=8) z6 (iP (p.k=9) z6 (iP (p.k=10) z6 (iP (p.k=11) z6 (mP (False) (true)))))))))))))) (mP (False) (true))))))))))))))))) (by kernel_rfl) ?_
 dsimp only[ju]at hpre
 refine iI (fun hc1=> ?_) (fun hc1=> ?_)
 exact hK
 refine iI (fun hc2=> ?_) (fun hc2=> ?_)
 exact hK
 refine iI (fun hc3=> ?_) (fun hc3=> ?_)
 refine iI (fun hc4=> ?_) (fun hc4=> ?_)
 exfalso;omega
 refine iI (fun hc5=> ?_) (fun hc5=> ?_)
 exfalso;omega
 refine iI (fun hc6=> ?_) (fun hc6=> ?_)
 exfalso;omega
 refine iI (fun hc7=> ?_) (fun hc7=> ?_)
 exfalso;omega
 refine iI (fun hc8=> ?_) (fun hc8=> ?_)
 exfalso;omega
 refine iI (fun hc9=> ?_) (fun hc9=> ?_)
 exfalso;omega
 refine iI (fun hc10=> ?_) (fun hc10=> ?_)
 exfalso;omega
 refine iI (fun hc11=> ?_) (fun hc11=> ?_)
 exfalso;omega
 refine iI (fun hc12=> ?_) (fun hc12=> ?_)
 exfalso;omega
 refine iI (fun hc13=> ?_) (fun hc13=> ?_)
 exfalso;omega
 refine iI (fun hc14=> ?_) (fun hc14=> ?_)
 exfalso;omega
 refine iI (fun hc15=> ?_) (fun hc15=> ?_)
 exfalso;omega
 refine ed ?_
 rfl
 refine iI (fun hc16=> ?_) (fun hc16=> ?_)
 refine iI (fun hc17=> ?_) (fun hc17=> ?_)
 exfalso;omega
 refine iI (fun hc18=> ?_) (fun hc18=> ?_)
 exfalso;omega
 refine iI (fun hc19=> ?_) (fun hc19=> ?_)
 exfalso;omega
 refine iI (fun hc20=> ?_) (fun hc20=> ?_)
 exfalso;omega
 refine iI (fun hc21=> ?_) (fun hc21=> ?_)
 exfalso;omega
 refine iI (fun hc22=> ?_) (fun hc22=> ?_)
 exfalso;omega
 refine iI (fun hc23=> ?_) (fun hc23=> ?_)
 exfalso;omega
 refine iI (fun hc24=> ?_) (fun hc24=> ?_)
 exfalso;omega
 refine iI (fun hc25=> ?_) (fun hc25=> ?_)
 exfalso;omega
 refine iI (fun hc26=> ?_) (fun hc26=> ?_)
 exfalso;omega
 refine iI (fun hc27=> ?_) (fun hc27=> ?_)
 exfalso;omega
 refine iI (fun hc28=> ?_) (fun hc28=> ?_)
 exfalso;omega
 refine ed ?_
 rfl
 refine iI (fun hc29=> ?_) (fun hc29=> ?_)
 refine iI (fun hc30=> ?_) (fun hc30=> ?_)
 exfalso;omega
 refine iI (fun hc31=> ?_) (fun hc31=> ?_)
 exfalso;omega
 refine iI (fun hc32=> ?_) (fun hc32=> ?_)
 exfalso;omega
 refine iI (fun hc33=> ?_) (fun hc33=> ?_)
 exfalso;omega
 refine iI (fun hc34=> ?_) (fun hc34=> ?_)
 exfalso;omega
 refine iI (fun hc35=> ?_) (fun hc35=> ?_)
 exfalso;omega
 refine iI (fun hc36=> ?_) (fun hc36=> ?_)
 exfalso;omega
 refine iI (fun hc37=> ?_) (fun hc37=> ?_)
 exfalso;omega
 refine iI (fun hc38=> ?_) (fun hc38=> ?_)
 exfalso;omega
 refine iI (fun hc39=> ?_) (fun hc39=> ?_)
 exfalso;omega
 refine iI (fun hc40=> ?_) (fun hc40=> ?_)
 exfalso;omega
 refine iI (fun hc41=> ?_) (fun hc41=> ?_)
 exfalso;omega
 refine ed ?_
 rfl
 refine iI (fun hc42=> ?_) (fun hc42=> ?_)
 refine iI (fun hc43=> ?_) (fun hc43=> ?_)
 exfalso;omega
 refine iI (fun hc44=> ?_) (fun hc44=> ?_)
 exfalso;omega
 refine iI (fun hc45=> ?_) (fun hc45=> ?_)
 exfalso;omega
 refine iI (fun hc46=> ?_) (fun hc46=> ?_)
 exfalso;omega
 refine iI (fun hc47=> ?_) (fun hc47=> ?_)
 exfalso;omega
 refine iI (fun hc48=> ?_) (fun hc48=> ?_)
 exfalso;omega
 refine iI (fun hc49=> ?_) (fun hc49=> ?_)
 exfalso;omega
 refine iI (fun hc50=> ?_) (fun hc50=> ?_)
 exfalso;omega
 refine iI (fun hc51=> ?_) (fun hc51=> ?_)
 exfalso;omega
 refine iI (fun hc52=> ?_) (fun hc52=> ?_)
 exfalso;omega
 refine iI (fun hc53=> ?_) (fun hc53=> ?_)
 exfalso;omega
 refine iI (fun hc54=> ?_) (fun hc54=> ?_)
 exfalso;omega
 refine ed ?_
 rfl
 refine iI (fun hc55=> ?_) (fun hc55=> ?_)
 refine iI (fun hc56=> ?_) (fun hc56=> ?_)
 exfalso;omega
 refine iI (fun hc57=> ?_) (fun hc57=> ?_)
 exfalso;omega
 refine iI (fun hc58=> ?_) (fun hc58=> ?_)
 exfalso;omega
 refine iI (fun hc59=> ?_) (fun hc59=> ?_)
 exfalso;omega
 refine iI (fun hc60=> ?_) (fun hc60=> ?_)
 exfalso;omega
 refine iI (fun hc61=> ?_) (fun hc61=> ?_)
 exfalso;omega
 refine iI (fun hc62=> ?_) (fun hc62=> ?_)
 exfalso;omega
 refine iI (fun hc63=> ?_) (fun hc63=> ?_)
 exfalso;omega
 refine iI (fun hc64=> ?_) (fun hc64=> ?_)
 exfalso;omega
 refine iI (fun hc65=> ?_) (fun hc65=> ?_)
 exfalso;omega
 refine iI (fun hc66=> ?_) (fun hc66=> ?_)
 exfalso;omega
 refine iI (fun hc67=> ?_) (fun hc67=> ?_)
 exfalso;omega
 refine ed ?_
 rfl
 refine iI (fun hc68=> ?_) (fun hc68=> ?_)
 refine iI (fun hc69=> ?_) (fun hc69=> ?_)
 exfalso;omega
 refine iI (fun hc70=> ?_) (fun hc70=> ?_)
 exfalso;omega
 refine iI (fun hc71=> ?_) (fun hc71=> ?_)
 exfalso;omega
 refine iI (fun hc72=> ?_) (fun hc72=> ?_)
 exfalso;omega
 refine iI (fun hc73=> ?_) (fun hc73=> ?_)
 exfalso;omega
 refine iI (fun hc74=> ?_) (fun hc74=> ?_)
 exfalso;omega
 refine iI (fun hc75=> ?_) (fun hc75=> ?_)
 exfalso;omega
 refine iI (fun hc76=> ?_) (fun hc76=> ?_)
 exfalso;omega
 refine iI (fun hc77=> ?_) (fun hc77=> ?_)
 exfalso;omega
 refine iI (fun hc78=> ?_) (fun hc78=> ?_)
 exfalso;omega
 refine iI (fun hc79=> ?_) (fun hc79=> ?_)
 exfalso;omega
 refine iI (fun hc80=> ?_) (fun hc80=> ?_)
 exfalso;omega
 refine ed ?_
 rfl
 refine iI (fun hc81=> ?_) (fun hc81=> ?_)
 refine iI (fun hc82=> ?_) (fun hc82=> ?_)
 exfalso;omega
 refine iI (fun hc83=> ?_) (fun hc83=> ?_)
 exfalso;omega
 refine iI (fun hc84=> ?_) (fun hc84=> ?_)
 exfalso;omega
 refine iI (fun hc85=> ?_) (fun hc85=> ?_)
 exfalso;omega
 refine iI (fun hc86=> ?_) (fun hc86=> ?_)
 exfalso;omega
 refine iI (fun hc87=> ?_) (fun hc87=> ?_)
 exfalso;omega
 refine iI (fun hc88=> ?_) (fun hc88=> ?_)
 exfalso;omega
 refine iI (fun hc89=> ?_) (fun hc89=> ?_)
 exfalso;omega
 refine iI (fun hc90=> ?_) (fun hc90=> ?_)
 exfalso;omega
 refine iI (fun hc91=> ?_) (fun hc91=> ?_)
 exfalso;omega
 refine iI (fun hc92=> ?_) (fun hc92=> ?_)
 exfalso;omega
 refine iI (fun hc93=> ?_) (fun hc93=> ?_)
 exfalso;omega
 refine ed ?_
 rfl
 refine iI (fun hc94=> ?_) (fun hc94=> ?_)
 refine iI (fun hc95=> ?_) (fun hc95=> ?_)
 exfalso;omega
 refine iI (fun hc96=> ?_) (fun hc96=> ?_)
 exfalso;omega
 refine iI (fun hc97=> ?_) (fun hc97=> ?_)
 exfalso;omega
 refine iI (fun hc98=> ?_) (fun hc98=> ?_)
 exfalso;omega
 refine iI (fun hc99=> ?_) (fun hc99=> ?_)
 exfalso;omega
 refine iI (fun hc100=> ?_) (fun hc100=> ?_)
 exfalso;omega
 refine iI (fun hc101=> ?_) (fun hc101=> ?_)
 exfalso;omega
 refine iI (fun hc102=> ?_) (fun hc102=> ?_)
 exfalso;omega
 refine iI (fun hc103=> ?_) (fun hc103=> ?_)
 exfalso;omega
 refine iI (fun hc104=> ?_) (fun hc104=> ?_)
 exfalso;omega
 refine iI (fun hc105=> ?_) (fun hc105=> ?_)
 exfalso;omega
 refine iI (fun hc106=> ?_) (fun hc106=> ?_)
 exfalso;omega
 refine ed ?_
 rfl
 refine iI (fun hc107=> ?_) (fun hc107=> ?_)
 refine iI (fun hc108=> ?_) (fun hc108=> ?_)
 exfalso;omega
 refine iI (fun hc109=> ?_) (fun hc109=> ?_)
 exfalso;omega
 refine iI (fun hc110=> ?_) (fun hc110=> ?_)
 exfalso;omega
 refine iI (fun hc111=> ?_) (fun hc111=> ?_)
 exfalso;omega
 refine iI (fun hc112=> ?_) (fun hc112=> ?_)
 exfalso;omega
 refine iI (fun hc113=> ?_) (fun hc113=> ?_)
 exfalso;omega
 refine iI (fun hc114=> ?_) (fun hc114=> ?_)
 exfalso;omega
 refine iI (fun hc115=> ?_) (fun hc115=> ?_)
 exfalso;omega
 refine iI (fun hc116=> ?_) (fun hc116=> ?_)
 exfalso;omega
 refine iI (fun hc117=> ?_) (fun hc117=> ?_)
 exfalso;omega
 refine iI (fun hc118=> ?_) (fun hc118=> ?_)
 exfalso;omega
 refine iI (fun hc119=> ?_) (fun hc119=> ?_)
 exfalso;omega
 refine ed ?_
 rfl
 refine iI (fun hc120=> ?_) (fun hc120=> ?_)
 refine iI (fun hc121=> ?_) (fun hc121=> ?_)
 exfalso;omega
 refine iI (fun hc122=> ?_) (fun hc122=> ?_)
 exfalso;omega
 refine iI (fun hc123=> ?_) (fun hc123=> ?_)
 exfalso;omega
 refine iI (fun hc124=> ?_) (fun hc124=> ?_)
 exfalso;omega
 refine iI (fun hc125=> ?_) (fun hc125=> ?_)
 exfalso;omega
 refine iI (fun hc126=> ?_) (fun hc126=> ?_)
 exfalso;omega
 refine iI (fun hc127=> ?_) (fun hc127=> ?_)
 exfalso;omega
 refine iI (fun hc128=> ?_) (fun hc128=> ?_)
 exfalso;omega
 refine iI (fun hc129=> ?_) (fun hc129=> ?_)
 exfalso;omega
 refine iI (fun hc130=> ?_) (fun hc130=> ?_)
 exfalso;omega
 refine iI (fun hc131=> ?_) (fun hc131=> ?_)
 exfalso;omega
 refine iI (fun hc132=> ?_) (fun hc132=> ?_)
 exfalso;omega
 refine ed ?_
 rfl
 refine iI (fun hc133=> ?_) (fun hc133=> ?_)
 refine iI (fun hc134=> ?_) (fun hc134=> ?_)
 exfalso;omega
 refine iI (fun hc135=> ?_) (fun hc135=> ?_)
 exfalso;omega
 refine iI (fun hc136=> ?_) (fun hc136=> ?_)
 exfalso;omega
 refine iI (fun hc137=> ?_) (fun hc137=> ?_)
 exfalso;omega
 refine iI (fun hc138=> ?_) (fun hc138=> ?_)
 exfalso;omega
 refine iI (fun hc139=> ?_) (fun hc139=> ?_)
 exfalso;omega
 refine iI (fun hc140=> ?_) (fun hc140=> ?_)
 exfalso;omega
 refine iI (fun hc141=> ?_) (fun hc141=> ?_)
 exfalso;omega
 refine iI (fun hc142=> ?_) (fun hc142=> ?_)
 exfalso;omega
 refine iI (fun hc143=> ?_) (fun hc143=> ?_)
 exfalso;omega
 refine iI (fun hc144=> ?_) (fun hc144=> ?_)
 exfalso;omega
 refine iI (fun hc145=> ?_) (fun hc145=> ?_)
 exfalso;omega
 refine ed ?_
 rfl
 refine iI (fun hc146=> ?_) (fun hc146=> ?_)
 refine iI (fun hc147=> ?_) (fun hc147=> ?_)
 exfalso;omega
 refine iI (fun hc148=> ?_) (fun hc148=> ?_)
 exfalso;omega
 refine iI (fun hc149=> ?_) (fun hc149=> ?_)
 exfalso;omega
 refine iI (fun hc150=> ?_) (fun hc150=> ?_)
 exfalso;omega
 refine iI (fun hc151=> ?_) (fun hc151=> ?_)
 exfalso;omega
 refine iI (fun hc152=> ?_) (fun hc152=> ?_)
 exfalso;omega
 refine iI (fun hc153=> ?_) (fun hc153=> ?_)
 exfalso;omega
 refine iI (fun hc154=> ?_) (fun hc154=> ?_)
 exfalso;omega
 refine iI (fun hc155=> ?_) (fun hc155=> ?_)
 exfalso;omega
 refine iI (fun hc156=> ?_) (fun hc156=> ?_)
 exfalso;omega
 refine iI (fun hc157=> ?_) (fun hc157=> ?_)
 exfalso;omega
 refine iI (fun hc158=> ?_) (fun hc158=> ?_)
 exfalso;omega
 refine ed ?_
 rfl
 refine ed ?_
 rfl
noncomputable def ql:=bN su 0 (ck mY (dP ju vM)) 51 [(0,20)]
theorem rp:aZ Tryz.prog ql:=aR (cJ (f:=51) (k:=0) (aQ sV) Dd (by rfl) (by rfl) IP) sV
def HD:XF:=.mk 50 (.one 2) (.aft (.seq (g_ 2 [e_ 0 1 (.box 54 (.t 0)),p_ 1 2 (.mv (.c (.bool false)))]) (.pre [.fixo 0 0 0 12] (.seq (.seq (h_ 11 [p_ 0 5 (f_ 0 1),r_ 1 6 (l_ 5),c_ 2 7 62 [.t 6],p_ 3 8 (.bin 5 0 (.t 7) (.c (.str []))),p_ 4 9 (m_ 8),aY 5 10 9 false (.ld true 9 (.t 1)),aY 6 11 9 false (.ld true 9 (.t 1)),il 7 12 9 false 67 [.t 11],YM 5 10 9 false (.ld true 9 (.t 1)),il 8 13 9 false 43 [.t 10,.t 12],au 9 14 9 false (.un 0 (.t 13)),p_ 10 15 (.pick (.t 9) (.c (.bool true)) (.t 14))]) (.cond (.t 15) (.seq (g_ 1 [p_ 0 2 (.mv (.c (.bool false)))]) .ret) .skip)) (.seq (.seq (g_ 3 [c_ 0 16 63 [.t 1],p_ 1 17 (k_ 16),p_ 2 18 (.mv (i_ 0))]) (.block 2 (.loop [1,2,4,16,17,18,19,20,21,22,23,24,25,26,27,28,29,30,31,32,33,34,35,36,37,38,39,40,41,42,43,44,45,46,47,48,49] (.seq (g_ 1 [p_ 0 19 (.bin 3 0 (.t 18) (.t 17))]) (.seq (.cond (.t 19) .skip (.exit 2)) (.seq (.block 3 (.seq (g_ 3 [p_ 0 20 (.ixs 1 (.t 16) (.t 18)),r_ 1 21 (l_ 20),p_ 2 4 (m_ 21)]) (.seq (g_ 5 [p_ 0 22 (m_ 4),p_ 1 23 (n_ 22),r_ 2 24 (l_ 23),c_ 3 25 36 [.t 24],p_ 4 26 (.un 0 (.t 25))]) (.cond (.t 26) (.seq (g_ 1 [p_ 0 2 (.mv (.c (.bool false)))]) .ret) .skip)))) (g_ 2 [p_ 0 27 (.bin 0 0 (.t 18) (i_ 1)),p_ 1 18 (m_ 27)]))))))) (.seq (.seq (g_ 3 [p_ 0 28 (f_ 0 1),r_ 1 29 (l_ 28),p_ 2 30 (.bin 3 5 (.t 29) (i_ 0))]) (.cond (.t 30) (.seq (g_ 1 [p_ 0 2 (.mv (.c (.bool true)))]) .ret) .skip)) (.seq (h_ 20 [p_ 0 31 (f_ 8 1),r_ 1 32 (l_ 31),c_ 2 33 68 [.t 32],p_ 3 34 (m_ 33),au 4 35 34 true (f_ 8 1),aY 5 36 34 true (l_ 35),au 6 37 34 true (.ixs 5 (.t 36) (i_ 0)),au 7 38 34 true (f_ 0 37),aY 8 39 34 true (l_ 38),au 9 40 34 true (f_ 7 1),aY 10 41 34 true (l_ 40),au 11 42 34 true (.bin 3 4 (.t 39) (.t 41)),p_ 12 43 (.pick (.t 34) (.t 42) (.c (.bool false))),p_ 13 44 (m_ 43),au 14 45 44 true (f_ 8 1),aY 15 46 44 true (l_ 45),il 16 47 44 true 69 [.t 46,.f 70],au 17 48 44 true (.un 0 (.t 47)),p_ 18 49 (.pick (.t 44) (.t 48) (.c (.bool false))),p_ 19 2 (m_ 49)]) .ret)))))) [(0,[.up 2]),(1,[.up 2])])
theorem Je:ci Tryz.prog 40 HD=true:=by kernel_rfl
structure mn where
 o:aI
structure Dz where
 q:Prop
def lu (p:mn) (r:Dz):Prop:=r.q↔cS p.o
noncomputable def pM (p:mn):IE:=([.agg [.sy (.int 0 p.o.kind),.sy (.int 0 p.o.x),.sy (.int 0 p.o.y),.sy (.int 0 p.o.i),.sy (.int 0 p.o.at_),.sy (.int 0 p.o.mode),.sy (.int 3 p.o.mask),.sy (.int 1 p.o.grp),.sy (.imm p.o.hp 5 aB p.o.ps aF)]],.leaf,0)
noncomputable def vR (p:mn) (K:KE):Bool:=ai fun r:Dz=>iP (lu p r) (K (.sy (.bool r.q)) .leaf 0) true
def jx (p:mn):Prop:=p.o.ps.length≤1000000
theorem ae {p:mn} {K:KE} (hK:vR p K=true) (r:Dz) (h:lu p r:=by dsimp only[lu]<;>((first|rw[Bg (by assumption)]|rw[LD (by assumption)]|rw[LC (by assumption)]|rw[LB (by assumption)]|rw[LA (by assumption)]|rw[Lz (by assumption)]|rw[Ly (by assumption)]|rw[Lx (by assumption)]|rw[Lw (by assumption)]|rw[Lv (by assumption)]|rw[Gm (by assumption)]|rw[Gl (by assumption)]|rw[iff_false_intro (Gk (by omega))]);first|(simp_all;done)|(simp_all;omega)|((try unfold ft);simp_all;done)|((try unfold ft);simp_all;omega)|((try unfold ft);constructor<;>intro h<;>simp_all<;>omega)|(constructor<;>intro h<;>simp_all<;>omega)|omega)):K (.sy (.bool r.q)) .leaf 0=true:=aq h (az hK r)
theorem OO (p:mn) (K:KE) (hpre:jx p) (hK:vR p K=true):(cw 0 (cj ql) dC 600 HD (pM p).1 (pM p).2.1 (pM p).2.2 K)=true:=by
 refine Eq.trans (b:=(let z0:Bool:=(K (.sy (.bool (false=true))) .leaf 0);let z1:Bool:=(K (.sy (.bool (true=true))) .leaf 0);iP (p.o.kind=0) (ac (qL [qI 0 p.o.x,qI 0 p.o.y,qI 0 p.o.i,qI 0 p.o.at_,qI 0 p.o.mode,qI 3 p.o.mask,qI 1 p.o.grp,qY ((.imm p.o.hp 5 aB p.o.ps aF))]) (iP (p.o.x=p.o.x) (iP (p.o.y=(0:Int)) (iP (p.o.i=(0:Int)) (iP (p.o.at_=(0:Int)) (iP (p.o.mode=p.o.mode) (iP (p.o.mask=(0:Int)) (iP (p.o.grp=p.o.grp) (aH (([.sy (.imm p.o.hp 5 aB p.o.ps aF),.sy (.imm p.o.hp 5 aB p.o.ps aF)],.leaf,0)) qX mH jM fun p13 r12=>iP (¬r12.q) z0 (iP ((0:Int)≤p.o.x) (iP (¬(p.o.x≤(1099511627776:Int))) z0 (iP ((0:Int)≤p.o.mode) (iP (¬(p.o.mode≤(1099511627776:Int))) z0 (iP ((p.o.ps.length:Int)<(1:Int)) z0 (iP ((4:Int)<(p.o.ps.length:Int)) z0 (aH (([.sy (.imm p.o.hp 5 aB p.o.ps aF),.fn 94 []],.leaf,0)) tC oo nw fun p14 r13=>iP (¬((0:Int)≤r13.z)) (mP (0≤(0:Int)∧(0:Int)<(p.o.ps.length:Int)) (ai fun x1:aB=>iP (p.o.ps[0]?=some x1) (iP (x1.g=p.o.grp) (aH (([.sy (.imm p.o.hp 5 aB p.o.ps aF),.fn 70 []],.leaf,0)) tD oq ny fun p15 r14=>K (.sy (.bool (¬((0:Int)≤r14.z)))) .leaf 0) z0) true)) z0)))) z0)) z0)) z0) z0) z0) z0) z0) z0) z0)) (iP (p.o.kind=1) (ac (qL [qI 0 p.o.x,qI 0 p.o.y,qI 0 p.o.i,qI 0 p.o.at_,qI 0 p.o.mode,qI 3 p.o.mask,qI 1 p.o.grp,qY ((.imm p.o.hp 5 aB p.o.ps aF))]) (iP (p.o.x=p.o.x) (iP (p.o.y=p.o.y) (iP (p.o.i=(0:Int)) (iP (p.o.at_=(0:Int)) (iP (p.o.mode=(0:Int)) (iP (p.o.mask=(0:Int)) (iP (p.o.grp=(0:Int)) (aN fun p12:bG=>mP (([.sy (.imm p.o.hp 5 aB p.o.ps aF),.nilS],.leaf,0)=dy p12) (ai fun r11:dN=>iP (bw p12 r11) (iP (¬r11.q) z0 (iP ((0:Int)≤p.o.x) (iP (¬(p.o.x≤(1099511627776:Int))) z0 (iP ((0:Int)≤p.o.y) (iP (¬(p.o.y≤(1099511627776:Int))) z0 z1) z0)) z0)) true)) z0) z0) z0) z0) z0) z0) z0)) (iP (p.o.kind=2) (ac (qL [qI 0 p.o.x,qI 0 p.o.y,qI 0 p.o.i,qI 0 p.o.at_,qI 0 p.o.mode,qI 3 p.o.mask,qI 1 p.o.grp,qY ((.imm p.o.hp 5 aB p.o.ps aF))]) (iP (p.o.x=(0:Int)) (iP (p.o.y=(0:Int)) (iP (p.o.i=p.o.i) (iP (p.o.at_=(0:Int)) (iP (p.o.mode=(0:Int)) (iP (p.o.mask=(0:Int)) (iP (p.o.grp=(0:Int)) (aN fun p11:bG=>mP (([.sy (.imm p.o.hp 5 aB p.o.ps aF),.nilS],.leaf,0)=dy p11) (ai fun r10:dN=>iP (bw p11 r10) (iP (¬r10.q) z0 (iP ((0:Int)≤p.o.i) (iP (¬(p.o.i≤(1099511627776:Int))) z0 z1) z0)) true)) z0) z0) z0) z0) z0) z0) z0)) (iP (p.o.kind=3) (ac (qL [qI 0 p.o.x,qI 0 p.o.y,qI 0 p.o.i,qI 0 p.o.at_,qI 0 p.o.mode,qI 3 p.o.mask,qI 1 p.o.grp,qY ((.imm p.o.hp 5 aB p.o.ps aF))]) (iP (p.o.x=(0:Int)) (iP (p.o.y=(0:Int)) (iP (p.o.i=p.o.i) (iP (p.o.at_=(0:Int)) (iP (p.o.mode=(0:Int)) (iP (p.o.mask=(0:Int)) (iP (p.o.grp=(0:Int)) (aN fun p10:bG=>mP (([.sy (.imm p.o.hp 5 aB p.o.ps aF),.nilS],.leaf,0)=dy p10) (ai fun r9:dN=>iP (bw p10 r9) (iP (¬r9.q) z0 (iP ((0:Int)≤p.o.i) (iP (¬(p.o.i≤(1099511627776:Int))) z0 z1) z0)) true)) z0) z0) z0) z0) z0) z0) z0)) (iP (p.o.kind=4) (ac (qL [qI 0 p.o.x,qI 0 p.o.y,qI 0 p.o.i,qI 0 p.o.at_,qI 0 p.o.mode,qI 3 p.o.mask,qI 1 p.o.grp,qY ((.imm p.o.hp 5 aB p.o.ps aF))]) (iP (p.o.x=(0:Int)) (iP (p.o.y=(0:Int)) (iP (p.o.i=p.o.i) (iP (p.o.at_=(0:Int)) (iP (p.o.mode=(0:Int)) (iP (p.o.mask=(0:Int)) (iP (p.o.grp=(0:Int)) (aN fun p9:bG=>mP (([.sy (.imm p.o.hp 5 aB p.o.ps aF),.nilS],.leaf,0)=dy p9) (ai fun r8:dN=>iP (bw p9 r8) (iP (¬r8.q) z0 (iP ((0:Int)≤p.o.i) (iP (¬(p.o.i≤(1099511627776:Int))) z0 z1) z0)) true)) z0) z0) z0) z0) z0) z0) z0)) (iP (p.o.kind=5) (ac (qL [qI 0 p.o.x,qI 0 p.o.y,qI 0 p.o.i,qI 0 p.o.at_,qI 0 p.o.mode,qI 3 p.o.mask,qI 1 p.o.grp,qY ((.imm p.o.hp 5 aB p.o.ps aF))]) (iP (p.o.x=(0:Int)) (iP (p.o.y=(0:Int)) (iP (p.o.i=p.o.i) (iP (p.o.at_=p.o.at_) (iP (p.o.mode=(0:Int)) (iP (p.o.mask=p.o.mask) (iP (p.o.grp=(0:Int)) (aN fun p8:bG=>mP (([.sy (.imm p.o.hp 5 aB p.o.ps aF),.nilS],.leaf,0)=dy p8) (ai fun r7:dN=>iP (bw p8 r7) (iP (¬r7.q) z0 (iP ((0:Int)≤p.o.i) (iP (¬(p.o.i≤(1099511627776:Int))) z0 (iP ((0:Int)≤p.o.at_) (iP (¬(p.o.at_≤(1099511627776:Int))) z0 z1) z0)) z0)) true)) z0) z0) z0) z0) z0) z0) z0)) (iP (p.o.kind=6) (ac (qL [qI 0 p.o.x,qI 0 p.o.y,qI 0 p.o.i,qI 0 p.o.at_,qI 0 p.o.mode,qI 3 p.o.mask,qI 1 p.o.grp,qY ((.imm p.o.hp 5 aB p.o.ps aF))]) (iP (p.o.x=p.o.x) (iP (p.o.y=(0:Int)) (iP (p.o.i=(0:Int)) (iP (p.o.at_=(0:Int)) (iP (p.o.mode=(0:Int)) (iP (p.o.mask=(0:Int)) (iP (p.o.grp=(0:Int)) (aN fun p7:bG=>mP (([.sy (.imm p.o.hp 5 aB p.o.ps aF),.nilS],.leaf,0)=dy p7) (ai fun r6:dN=>iP (bw p7 r6) (iP (¬r6.q) z0 (iP ((0:Int)≤p.o.x) (iP (¬(p.o.x≤(1099511627776:Int))) z0 z1) z0)) true)) z0) z0) z0) z0) z0) z0) z0)) (iP (p.o.kind=7) (ac (qL [qI 0 p.o.x,qI 0 p.o.y,qI 0 p.o.i,qI 0 p.o.at_,qI 0 p.o.mode,qI 3 p.o.mask,qI 1 p.o.grp,qY ((.imm p.o.hp 5 aB p.o.ps aF))]) (iP (p.o.x=p.o.x) (iP (p.o.y=p.o.y) (iP (p.o.i=(0:Int)) (iP (p.o.at_=(0:Int)) (iP (p.o.mode=(0:Int)) (iP (p.o.mask=(0:Int)) (iP (p.o.grp=(0:Int)) (aN fun p6:bG=>mP (([.sy (.imm p.o.hp 5 aB p.o.ps aF),.nilS],.leaf,0)=dy p6) (ai fun r5:dN=>iP (bw p6 r5) (iP (¬r5.q) z0 (iP ((0:Int)≤p.o.x) (iP (¬(p.o.x≤(1099511627776:Int))) z0 (iP ((0:Int)≤p.o.y) (iP (¬(p.o.y≤(1099511627776:Int))) z0 z1) z0)) z0)) true)) z0) z0) z0) z0) z0) z0) z0)) (iP (p.o.kind=8) (ac (qL [qI 0 p.o.x,qI 0 p.o.y,qI 0 p.o.i,qI 0 p.o.at_,qI 0 p.o.mode,qI 3 p.o.mask,qI 1 p.o.grp,qY ((.imm p.o.hp 5 aB p.o.ps aF))]) (iP (p.o.x=p.o.x) (iP (p.o.y=(0:Int)) (iP (p.o.i=(0:Int)) (iP (p.o.at_=(0:Int)) (iP (p.o.mode=(0:Int)) (iP (p.o.mask=(0:Int)) (iP (p.o.grp=(0:Int)) (aN fun p5:bG=>mP (([.sy (.imm p.o.hp 5 aB p.o.ps aF),.nilS],.leaf,0)=dy p5) (ai fun r4:dN=>iP (bw p5 r4) (iP (¬r4.q) z0 (iP ((0:Int)≤p.o.x) (iP (¬(p.o.x≤(1099511627776:Int))) z0 z1) z0)) true)) z0) z0) z0) z0) z0) z0) z0)) (iP (p.o.kind=9) (ac (qL [qI 0 p.o.x,qI 0 p.o.y,qI 0 p.o.i,qI 0 p.o.at_,qI 0 p.o.mode,qI 3 p.o.mask,qI 1 p.o.grp,qY ((.imm p.o.hp 5 aB p.o.ps aF))]) (iP (p.o.x=p.o.x) (iP (p.o.y=(0:Int)) (iP (p.o.i=(0:Int)) (iP (p.o.at_=(0:Int)) (iP (p.o.mode=(0:Int)) (iP (p.o.mask=(0:Int)) (iP (p.o.grp=(0:Int)) (aN fun p4:bG=>mP (([.sy (.imm p.o.hp 5 aB p.o.ps aF),.nilS],.leaf,0)=dy p4) (ai fun r3:dN=>iP (bw p4 r3) (iP (¬r3.q) z0 (iP ((0:Int)≤p.o.x) (iP (¬(p.o.x≤(1099511627776:Int))) z0 z1) z0)) true)) z0) z0) z0) z0) z0) z0) z0)) (iP (p.o.kind=10) (ac (qL [qI 0 p.o.x,qI 0 p.o.y,qI 0 p.o.i,qI 0 p.o.at_,qI 0 p.o.mode,qI 3 p.o.mask,qI 1 p.o.grp,qY ((.imm p.o.hp 5 aB p.o.ps aF))]) (iP (p.o.x=p.o.x) (iP (p.o.y=(0:Int)) (iP (p.o.i=(0:Int)) (iP (p.o.at_=(0:Int)) (iP (p.o.mode=(0:Int)) (iP (p.o.mask=(0:Int)) (iP (p.o.grp=(0:Int)) (aN fun p3:bG=>mP (([.sy (.imm p.o.hp 5 aB p.o.ps aF),.nilS],.leaf,0)=dy p3) (ai fun r2:dN=>iP (bw p3 r2) (iP (¬r2.q) z0 (iP ((0:Int)≤p.o.x) (iP (¬(p.o.x≤(1099511627776:Int))) z0 z1) z0)) true)) z0) z0) z0) z0) z0) z0) z0)) (iP (p.o.kind=11) (ac (qL [qI 0 p.o.x,qI 0 p.o.y,qI 0 p.o.i,qI 0 p.o.at_,qI 0 p.o.mode,qI 3 p.o.mask,qI 1 p.o.grp,qY ((.imm p.o.hp 5 aB p.o.ps aF))]) (iP (p.o.x=p.o.x) (iP (p.o.y=(0:Int)) (iP (p.o.i=(0:Int)) (iP (p.o.at_=(0:Int)) (iP (p.o.mode=(0:Int)) (iP (p.o.mask=(0:Int)) (iP (p.o.grp=(0:Int)) (aN fun p2:bG=>mP (([.sy (.imm p.o.hp 5 aB p.o.ps aF),.nilS],.leaf,0)=dy p2) (ai fun r1:dN=>iP (bw p2 r1) (iP (¬r1.q) z0 (iP ((0:Int)≤p.o.x) (iP (¬(p.o.x≤(1099511627776:Int))) z0 z1) z0)) true)) z0) z0) z0) z0) z0) z0) z0)) (aN fun p1:mg=>mP (([.sy (.int 0 p.o.kind)],.leaf,0)=oH p1) (mP (kU p1) z0))))))))))))))) (by kernel_rfl) ?_
 dsimp only[jx]at hpre
 refine iI (fun hc1=> ?_) (fun hc1=> ?_)
 refine aE (by simp[qL,qI,qS,qY,aC]) ?_
 refine iI (fun hc2=> ?_) (fun hc2=> ?_)
 refine iI (fun hc3=> ?_) (fun hc3=> ?_)
 refine iI (fun hc4=> ?_) (fun hc4=> ?_)
 refine iI (fun hc5=> ?_) (fun hc5=> ?_)
 refine iI (fun hc6=> ?_) (fun hc6=> ?_)
 refine iI (fun hc7=> ?_) (fun hc7=> ?_)
 refine iI (fun hc8=> ?_) (fun hc8=> ?_)
 refine ay (⟨p.o.hp,p.o.ps,p.o.hp,p.o.ps⟩:lN) rfl (by(try dsimp only[mH]);omega) fun r12 hi9=> ?_
 dsimp only[jM]at hi9
 refine iI (fun hc10=> ?_) (fun hc10=> ?_)
 exact ae hK ⟨false=true⟩
 refine iI (fun hc11=> ?_) (fun hc11=> ?_)
 refine iI (fun hc12=> ?_) (fun hc12=> ?_)
 exact ae hK ⟨false=true⟩
 refine iI (fun hc13=> ?_) (fun hc13=> ?_)
 refine iI (fun hc14=> ?_) (fun hc14=> ?_)
 exact ae hK ⟨false=true⟩
 refine iI (fun hc15=> ?_) (fun hc15=> ?_)
 exact ae hK ⟨false=true⟩
 refine iI (fun hc16=> ?_) (fun hc16=> ?_)
 exact ae hK ⟨false=true⟩
 refine ay (⟨p.o.hp,p.o.ps⟩:nO) rfl (by(try dsimp only[oo]);omega) fun r13 hi17=> ?_
 dsimp only[nw]at hi17
 refine iI (fun hc18=> ?_) (fun hc18=> ?_)
 refine mI (by first|omega|(constructor<;>omega)|(have e9:=(by assumption:_↔¬∀x∈_,bq x);omega)) ?_
 refine am (fun x1=> ?_)
 refine iI (fun hi19=> ?_) (fun _=>rfl)
 refine iI (fun hc20=> ?_) (fun hc20=> ?_)
 refine ay (⟨p.o.hp,p.o.ps⟩:nP) rfl (by(try dsimp only[oq]);omega) fun r14 hi21=> ?_
 dsimp only[ny]at hi21
 exact ae hK ⟨¬((0:Int)≤r14.z)⟩
 exact ae hK ⟨false=true⟩
 exact ae hK ⟨false=true⟩
 exact ae hK ⟨false=true⟩
 exact ae hK ⟨false=true⟩
 exact ae hK ⟨false=true⟩
 exact ae hK ⟨false=true⟩
 exact ae hK ⟨false=true⟩
 exact ae hK ⟨false=true⟩
 exact ae hK ⟨false=true⟩
 exact ae hK ⟨false=true⟩
 exact ae hK ⟨false=true⟩
 refine iI (fun hc22=> ?_) (fun hc22=> ?_)
 refine aE (by simp[qL,qI,qS,qY,aC]) ?_
 refine iI (fun hc23=> ?_) (fun hc23=> ?_)
 refine iI (fun hc24=> ?_) (fun hc24=> ?_)
 refine iI (fun hc25=> ?_) (fun hc25=> ?_)
 refine iI (fun hc26=> ?_) (fun hc26=> ?_)
 refine iI (fun hc27=> ?_) (fun hc27=> ?_)
 refine iI (fun hc28=> ?_) (fun hc28=> ?_)
 refine iI (fun hc29=> ?_) (fun hc29=> ?_)
 refine cU (⟨p.o.hp,p.o.ps⟩:bG) rfl fun r11 hi30=> ?_
 dsimp only[bw]at hi30
 refine iI (fun hc31=> ?_) (fun hc31=> ?_)
 exact ae hK ⟨false=true⟩
 refine iI (fun hc32=> ?_) (fun hc32=> ?_)
 refine iI (fun hc33=> ?_) (fun hc33=> ?_)
 exact ae hK ⟨false=true⟩
 refine iI (fun hc34=> ?_) (fun hc34=> ?_)
 refine iI (fun hc35=> ?_) (fun hc35=> ?_)
 exact ae hK ⟨false=true⟩
 exact ae hK ⟨true=true⟩
 exact ae hK ⟨false=true⟩
 exact ae hK ⟨false=true⟩
 exact ae hK ⟨false=true⟩
 exact ae hK ⟨false=true⟩
 exact ae hK ⟨false=true⟩
 exact ae hK ⟨false=true⟩
 exact ae hK ⟨false=true⟩
 exact ae hK ⟨false=true⟩
 exact ae hK ⟨false=true⟩
 refine iI (fun hc36=> ?_) (fun hc36=> ?_)
 refine aE (by simp[qL,qI,qS,qY,aC]) ?_
 refine iI (fun hc37=> ?_) (fun hc37=> ?_)
 refine iI (fun hc38=> ?_) (fun hc38=> ?_)
 refine iI (fun hc39=> ?_) (fun hc39=> ?_)
 refine iI (fun hc40=> ?_) (fun hc40=> ?_)
 refine iI (fun hc41=> ?_) (fun hc41=> ?_)
 refine iI (fun hc42=> ?_) (fun hc42=> ?_)
 refine iI (fun hc43=> ?_) (fun hc43=> ?_)
 refine cU (⟨p.o.hp,p.o.ps⟩:bG) rfl fun r10 hi44=> ?_
 dsimp only[bw]at hi44
 refine iI (fun hc45=> ?_) (fun hc45=> ?_)
 exact ae hK ⟨false=true⟩
 refine iI (fun hc46=> ?_) (fun hc46=> ?_)
 refine iI (fun hc47=> ?_) (fun hc47=> ?_)
 exact ae hK ⟨false=true⟩
 exact ae hK ⟨true=true⟩
 exact ae hK ⟨false=true⟩
 exact ae hK ⟨false=true⟩
 exact ae hK ⟨false=true⟩
 exact ae hK ⟨false=true⟩
 exact ae hK ⟨false=true⟩
 exact ae hK ⟨false=true⟩
 exact ae hK ⟨false=true⟩
 exact ae hK ⟨false=true⟩
 refine iI (fun hc48=> ?_) (fun hc48=> ?_)
 refine aE (by simp[qL,qI,qS,qY,aC]) ?_
 refine iI (fun hc49=> ?_) (fun hc49=> ?_)
 refine iI (fun hc50=> ?_) (fun hc50=> ?_)
 refine iI (fun hc51=> ?_) (fun hc51=> ?_)
 refine iI (fun hc52=> ?_) (fun hc52=> ?_)
 refine iI (fun hc53=> ?_) (fun hc53=> ?_)
 refine iI (fun hc54=> ?_) (fun hc54=> ?_)
 refine iI (fun hc55=> ?_) (fun hc55=> ?_)
 refine cU (⟨p.o.hp,p.o.ps⟩:bG) rfl fun r9 hi56=> ?_
 dsimp only[bw]at hi56
 refine iI (fun hc57=> ?_) (fun hc57=> ?_)
 exact ae hK ⟨false=true⟩
 refine iI (fun hc58=> ?_) (fun hc58=> ?_)
 refine iI (fun hc59=> ?_) (fun hc59=> ?_)
 exact ae hK ⟨false=true⟩
 exact ae hK ⟨true=true⟩
 exact ae hK ⟨false=true⟩
 exact ae hK ⟨false=true⟩
 exact ae hK ⟨false=true⟩
 exact ae hK ⟨false=true⟩
 exact ae hK ⟨false=true⟩
 exact ae hK ⟨false=true⟩
 exact ae hK ⟨false=true⟩
 exact ae hK ⟨false=true⟩
 refine iI (fun hc60=> ?_) (fun hc60=> ?_)
 refine aE (by simp[qL,qI,qS,qY,aC]) ?_
 refine iI (fun hc61=> ?_) (fun hc61=> ?_)
 refine iI (fun hc62=> ?_) (fun hc62=> ?_)
 refine iI (fun hc63=> ?_) (fun hc63=> ?_)
 refine iI (fun hc64=> ?_) (fun hc64=> ?_)
 refine iI (fun hc65=> ?_) (fun hc65=> ?_)
 refine iI (fun hc66=> ?_) (fun hc66=> ?_)
 refine iI (fun hc67=> ?_) (fun hc67=> ?_)
 refine cU (⟨p.o.hp,p.o.ps⟩:bG) rfl fun r8 hi68=> ?_
 dsimp only[bw]at hi68
 refine iI (fun hc69=> ?_) (fun hc69=> ?_)
 exact ae hK ⟨false=true⟩
 refine iI (fun hc70=> ?_) (fun hc70=> ?_)
 refine iI (fun hc71=> ?_) (fun hc71=> ?_)
 exact ae hK ⟨false=true⟩
 exact ae hK ⟨true=true⟩
 exact ae hK ⟨false=true⟩
 exact ae hK ⟨false=true⟩
 exact ae hK ⟨false=true⟩
 exact ae hK ⟨false=true⟩
 exact ae hK ⟨false=true⟩
 exact ae hK ⟨false=true⟩
 exact ae hK ⟨false=true⟩
 exact ae hK ⟨false=true⟩
 refine iI (fun hc72=> ?_) (fun hc72=> ?_)
 refine aE (by simp[qL,qI,qS,qY,aC]) ?_
 refine iI (fun hc73=> ?_) (fun hc73=> ?_)
 refine iI (fun hc74=> ?_) (fun hc74=> ?_)
 refine iI (fun hc75=> ?_) (fun hc75=> ?_)
 refine iI (fun hc76=> ?_) (fun hc76=> ?_)
 refine iI (fun hc77=> ?_) (fun hc77=> ?_)
 refine iI (fun hc78=> ?_) (fun hc78=> ?_)
 refine iI (fun hc79=> ?_) (fun hc79=> ?_)
 refine cU (⟨p.o.hp,p.o.ps⟩:bG) rfl fun r7 hi80=> ?_
 dsimp only[bw]at hi80
 refine iI (fun hc81=> ?_) (fun hc81=> ?_)
 exact ae hK ⟨false=true⟩
 refine iI (fun hc82=> ?_) (fun hc82=> ?_)
 refine iI (fun hc83=> ?_) (fun hc83=> ?_)
 exact ae hK ⟨false=true⟩
 refine iI (fun hc84=> ?_) (fun hc84=> ?_)
 refine iI (fun hc85=> ?_) (fun hc85=> ?_)
 exact ae hK ⟨false=true⟩
 exact ae hK ⟨true=true⟩
 exact ae hK ⟨false=true⟩
 exact ae hK ⟨false=true⟩
 exact ae hK ⟨false=true⟩
 exact ae hK ⟨false=true⟩
 exact ae hK ⟨false=true⟩
 exact ae hK ⟨false=true⟩
 exact ae hK ⟨false=true⟩
 exact ae hK ⟨false=true⟩
 exact ae hK ⟨false=true⟩
 refine iI (fun hc86=> ?_) (fun hc86=> ?_)
 refine aE (by simp[qL,qI,qS,qY,aC]) ?_
 refine iI (fun hc87=> ?_) (fun hc87=> ?_)
 refine iI (fun hc88=> ?_) (fun hc88=> ?_)
 refine iI (fun hc89=> ?_) (fun hc89=> ?_)
 refine iI (fun hc90=> ?_) (fun hc90=> ?_)
 refine iI (fun hc91=> ?_) (fun hc91=> ?_)
 refine iI (fun hc92=> ?_) (fun hc92=> ?_)
 refine iI (fun hc93=> ?_) (fun hc93=> ?_)
 refine cU (⟨p.o.hp,p.o.ps⟩:bG) rfl fun r6 hi94=> ?_
 dsimp only[bw]at hi94
 refine iI (fun hc95=> ?_) (fun hc95=> ?_)
 exact ae hK ⟨false=true⟩
 refine iI (fun hc96=> ?_) (fun hc96=> ?_)
 refine iI (fun hc97=> ?_) (fun hc97=> ?_)
 exact ae hK ⟨false=true⟩
 exact ae hK ⟨true=true⟩
 exact ae hK ⟨false=true⟩
 exact ae hK ⟨false=true⟩
 exact ae hK ⟨false=true⟩
 exact ae hK ⟨false=true⟩
 exact ae hK ⟨false=true⟩
 exact ae hK ⟨false=true⟩
 exact ae hK ⟨false=true⟩
 exact ae hK ⟨false=true⟩
 refine iI (fun hc98=> ?_) (fun hc98=> ?_)
 refine aE (by simp[qL,qI,qS,qY,aC]) ?_
 refine iI (fun hc99=> ?_) (fun hc99=> ?_)
 refine iI (fun hc100=> ?_) (fun hc100=> ?_)
 refine iI (fun hc101=> ?_) (fun hc101=> ?_)
 refine iI (fun hc102=> ?_) (fun hc102=> ?_)
 refine iI (fun hc103=> ?_) (fun hc103=> ?_)
 refine iI (fun hc104=> ?_) (fun hc104=> ?_)
 refine iI (fun hc105=> ?_) (fun hc105=> ?_)
 refine cU (⟨p.o.hp,p.o.ps⟩:bG) rfl fun r5 hi106=> ?_
 dsimp only[bw]at hi106
 refine iI (fun hc107=> ?_) (fun hc107=> ?_)
 exact ae hK ⟨false=true⟩
 refine iI (fun hc108=> ?_) (fun hc108=> ?_)
 refine iI (fun hc109=> ?_) (fun hc109=> ?_)
 exact ae hK ⟨false=true⟩
 refine iI (fun hc110=> ?_) (fun hc110=> ?_)
 refine iI (fun hc111=> ?_) (fun hc111=> ?_)
 exact ae hK ⟨false=true⟩
 exact ae hK ⟨true=true⟩
 exact ae hK ⟨false=true⟩
 exact ae hK ⟨false=true⟩
 exact ae hK ⟨false=true⟩
 exact ae hK ⟨false=true⟩
 exact ae hK ⟨false=true⟩
 exact ae hK ⟨false=true⟩
 exact ae hK ⟨false=true⟩
 exact ae hK ⟨false=true⟩
 exact ae hK ⟨false=true⟩
 refine iI (fun hc112=> ?_) (fun hc112=> ?_)
 refine aE (by simp[qL,qI,qS,qY,aC]) ?_
 refine iI (fun hc113=> ?_) (fun hc113=> ?_)
 refine iI (fun hc114=> ?_) (fun hc114=> ?_)
 refine iI (fun hc115=> ?_) (fun hc115=> ?_)
 refine iI (fun hc116=> ?_) (fun hc116=> ?_)
 refine iI (fun hc117=> ?_) (fun hc117=> ?_)
 refine iI (fun hc118=> ?_) (fun hc118=> ?_)
 refine iI (fun hc119=> ?_) (fun hc119=> ?_)
 refine cU (⟨p.o.hp,p.o.ps⟩:bG) rfl fun r4 hi120=> ?_
 dsimp only[bw]at hi120
 refine iI (fun hc121=> ?_) (fun hc121=> ?_)
 exact ae hK ⟨false=true⟩
 refine iI (fun hc122=> ?_) (fun hc122=> ?_)
 refine iI (fun hc123=> ?_) (fun hc123=> ?_)
 exact ae hK ⟨false=true⟩
 exact ae hK ⟨true=true⟩
 exact ae hK ⟨false=true⟩
 exact ae hK ⟨false=true⟩
 exact ae hK ⟨false=true⟩
 exact ae hK ⟨false=true⟩
 exact ae hK ⟨false=true⟩
 exact ae hK ⟨false=true⟩
 exact ae hK ⟨false=true⟩
 exact ae hK ⟨false=true⟩
 refine iI (fun hc124=> ?_) (fun hc124=> ?_)
 refine aE (by simp[qL,qI,qS,qY,aC]) ?_
 refine iI (fun hc125=> ?_) (fun hc125=> ?_)
 refine iI (fun hc126=> ?_) (fun hc126=> ?_)
 refine iI (fun hc127=> ?_) (fun hc127=> ?_)
 refine iI (fun hc128=> ?_) (fun hc128=> ?_)
 refine iI (fun hc129=> ?_) (fun hc129=> ?_)
 refine iI (fun hc130=> ?_) (fun hc130=> ?_)
 refine iI (fun hc131=> ?_) (fun hc131=> ?_)
 refine cU (⟨p.o.hp,p.o.ps⟩:bG) rfl fun r3 hi132=> ?_
 dsimp only[bw]at hi132
 refine iI (fun hc133=> ?_) (fun hc133=> ?_)
 exact ae hK ⟨false=true⟩
 refine iI (fun hc134=> ?_) (fun hc134=> ?_)
 refine iI (fun hc135=> ?_) (fun hc135=> ?_)
 exact ae hK ⟨false=true⟩
 exact ae hK ⟨true=true⟩
 exact ae hK ⟨false=true⟩
 exact ae hK ⟨false=true⟩
 exact ae hK ⟨false=true⟩
 exact ae hK ⟨false=true⟩
 exact ae hK ⟨false=true⟩
 exact ae hK ⟨false=true⟩
 exact ae hK ⟨false=true⟩
 exact ae hK ⟨false=true⟩
 refine iI (fun hc136=> ?_) (fun hc136=> ?_)
 refine aE (by simp[qL,qI,qS,qY,aC]) ?_
 refine iI (fun hc137=> ?_) (fun hc137=> ?_)
 refine iI (fun hc138=> ?_) (fun hc138=> ?_)
 refine iI (fun hc139=> ?_) (fun hc139=> ?_)
 refine iI (fun hc140=> ?_) (fun hc140=> ?_)
 refine iI (fun hc141=> ?_) (fun hc141=> ?_)
 refine iI (fun hc142=> ?_) (fun hc142=> ?_)
 refine iI (fun hc143=> ?_) (fun hc143=> ?_)
 refine cU (⟨p.o.hp,p.o.ps⟩:bG) rfl fun r2 hi144=> ?_
 dsimp only[bw]at hi144
 refine iI (fun hc145=> ?_) (fun hc145=> ?_)
 exact ae hK ⟨false=true⟩
 refine iI (fun hc146=> ?_) (fun hc146=> ?_)
 refine iI (fun hc147=> ?_) (fun hc147=> ?_)
 exact ae hK ⟨false=true⟩
 exact ae hK ⟨true=true⟩
 exact ae hK ⟨false=true⟩
 exact ae hK ⟨false=true⟩
 exact ae hK ⟨false=true⟩
 exact ae hK ⟨false=true⟩
 exact ae hK ⟨false=true⟩
 exact ae hK ⟨false=true⟩
 exact ae hK ⟨false=true⟩
 exact ae hK ⟨false=true⟩
 refine iI (fun hc148=> ?_) (fun hc148=> ?_)
 refine aE (by simp[qL,qI,qS,qY,aC]) ?_
 refine iI (fun hc149=> ?_) (fun hc149=> ?_)
 refine iI (fun hc150=> ?_) (fun hc150=> ?_)
 refine iI (fun hc151=> ?_) (fun hc151=> ?_)
 refine iI (fun hc152=> ?_) (fun hc152=> ?_)
 refine iI (fun hc153=> ?_) (fun hc153=> ?_)
 refine iI (fun hc154=> ?_) (fun hc154=> ?_)
 refine iI (fun hc155=> ?_) (fun hc155=> ?_)
 refine cU (⟨p.o.hp,p.o.ps⟩:bG) rfl fun r1 hi156=> ?_
 dsimp only[bw]at hi156
 refine iI (fun hc157=> ?_) (fun hc157=> ?_)
 exact ae hK ⟨false=true⟩
 refine iI (fun hc158=> ?_) (fun hc158=> ?_)
 refine iI (fun hc159=> ?_) (fun hc159=> ?_)
 exact ae hK ⟨false=true⟩
 exact ae hK ⟨true=true⟩
 exact ae hK ⟨false=true⟩
 exact ae hK ⟨false=true⟩
 exact ae hK ⟨false=true⟩
 exact ae hK ⟨false=true⟩
 exact ae hK ⟨false=true⟩
 exact ae hK ⟨false=true⟩
 exact ae hK ⟨false=true⟩
 exact ae hK ⟨false=true⟩
 refine eX (⟨p.o.kind⟩:mg) rfl (by(try dsimp only[kU]);omega) ?_
 exact ae hK ⟨false=true⟩
noncomputable def rr:=bN ql 0 (ck pM (dP jx vR)) 40 [(0,15)]
theorem qq:aZ Tryz.prog rr:=aR (cJ (f:=40) (k:=0) (aQ rp) Je (by rfl) (by rfl) OO) rp
def yS (g:aM):Prop:=(0≤g.f∧g.f≤1099511627776)∧(0≤g.s∧g.s≤1099511627776)
def AK (z:Int):Prop:= -9223372036854775808≤z∧z≤9223372036854775807
def Wz (o:aI):Prop:=(AK o.kind∧AK o.x∧AK o.y∧AK o.i∧AK o.at_∧AK o.mode)∧(0≤o.mask∧o.mask≤4294967295)∧(0≤o.grp∧o.grp≤255)∧∀x∈o.ps,sR x
def Aq:XC:=(.aft (.seq (.seq (g_ 5 [p_ 0 60 (m_ 8),p_ 1 61 (f_ 8 1),r_ 2 62 (l_ 61),p_ 3 63 (k_ 62),p_ 4 64 (.bin 3 0 (.t 60) (.t 63))]) (.cond (.t 64) .skip (.exit 4))) (.seq (.block 5 (.seq (g_ 7 [p_ 0 67 (f_ 8 1),r_ 1 68 (l_ 67),p_ 2 69 (m_ 8),p_ 3 70 (.ixs 5 (.t 68) (.t 69)),r_ 4 71 (.ld true 5 (.t 70)),c_ 5 72 84 [.t 71],p_ 6 73 (.un 0 (.t 72))]) (.cond (.t 73) (.seq (g_ 1 [p_ 0 2 (.mv (.c (.bool false)))]) .ret) .skip))) (g_ 3 [p_ 0 65 (m_ 8),p_ 1 66 (.bin 0 0 (.t 65) (i_ 1)),p_ 2 8 (m_ 66)]))) [(0,[.can 0 [1,5,8]]),(1,[.can 0 [2]]),(4,[.can 0 [1,5]])])
def Od:XF:=.mk 83 (.one 2) (.aft (.seq (g_ 2 [e_ 0 1 (.box 79 (.t 0)),p_ 1 2 (.mv (.c (.bool false)))]) (.pre [.fixo 0 0 0 12] (.seq (g_ 8 [p_ 0 10 (f_ 0 1),r_ 1 11 (l_ 10),c_ 2 12 51 [.t 11],p_ 3 9 (m_ 12),p_ 4 13 (.ext 0 (.t 9)),p_ 5 14 (.ext 1 (.t 9)),p_ 6 3 (m_ 13),p_ 7 4 (m_ 14)]) (.seq (.seq (g_ 2 [p_ 0 15 (m_ 3),p_ 1 16 (.bin 5 0 (.t 15) (.c (.str [])))]) (.cond (.t 16) (.seq (g_ 1 [p_ 0 2 (.mv (.c (.bool false)))]) .ret) .skip)) (.seq (g_ 5 [p_ 0 17 (f_ 0 1),r_ 1 18 (l_ 17),p_ 2 19 (.bld [.int 0 (.ofNat 0),.int 0 (.ofNat 0),.int 0 (.ofNat 0),.int 0 (.ofNat 0),.int 0 (.ofNat 0),.int 0 (.ofNat 0),.int 3 (.ofNat 0),.int 1 (.ofNat 0),.nilS] [(0,1)] [.t 18]),e_ 3 5 (.al 79 [.int 0 (.ofNat 0),.int 0 (.ofNat 0),.int 0 (.ofNat 0),.int 0 (.ofNat 0),.int 0 (.ofNat 0),.int 0 (.ofNat 0),.int 3 (.ofNat 0),.int 1 (.ofNat 0),.nilS]),bd 4 (.st 9 (.t 5) (.t 19))]) (.seq (.seq (g_ 1 [p_ 0 6 (.mv (i_ 0))]) (.block 2 (.loop [1,2,4,5,6,7,8,20,21,22,23,24,25,26,27,28,29,30,31,32,33,34,35,36,37,38,39,40,41,42,43,44,45,46,47,48,49,50,51,52,53,54,55,56,57,58,59,60,61,62,63,64,65,66,67,68,69,70,71,72,73,74,75,76,77,78,79,80,81,82] (.seq (.seq (g_ 4 [p_ 0 20 (m_ 6),p_ 1 21 (m_ 4),p_ 2 22 (.len 0 (.t 21)),p_ 3 23 (.bin 3 0 (.t 20) (.t 22))]) (.cond (.t 23) .skip (.exit 2))) (.seq (.block 3 (.seq (h_ 6 [r_ 0 26 (.ld true 9 (.t 1)),p_ 1 27 (m_ 4),p_ 2 28 (m_ 6),p_ 3 29 (.six (.t 27) (.t 28)),c_ 4 30 85 [.t 26,.t 29],p_ 5 7 (m_ 30)]) (.seq (.seq (g_ 6 [p_ 0 31 (m_ 7),p_ 1 32 (.bin 3 0 (.t 31) (i_ 0)),p_ 2 33 (m_ 32),au 3 34 33 false (m_ 7),au 4 35 33 false (.bin 3 2 (.t 34) (i_ 1099511627776)),p_ 5 36 (.pick (.t 33) (.c (.bool true)) (.t 35))]) (.cond (.t 36) (.seq (g_ 1 [p_ 0 2 (.mv (.c (.bool false)))]) .ret) .skip)) (h_ 7 [r_ 0 37 (.ld true 9 (.t 5)),p_ 1 38 (m_ 4),p_ 2 39 (m_ 6),p_ 3 40 (.six (.t 38) (.t 39)),p_ 4 41 (m_ 7),c_ 5 42 52 [.t 37,.t 40,.t 41],bd 6 (.st 9 (.t 5) (.t 42))])))) (g_ 3 [p_ 0 24 (m_ 6),p_ 1 25 (.bin 0 0 (.t 24) (i_ 1)),p_ 2 6 (m_ 25)])))))) (.seq (.seq (g_ 3 [p_ 0 43 (f_ 0 1),r_ 1 44 (l_ 43),p_ 2 45 (.bin 3 4 (.t 44) (i_ 0))]) (.cond (.t 45) (.seq (.seq (h_ 14 [p_ 0 46 (f_ 8 1),r_ 1 47 (l_ 46),c_ 2 48 86 [.t 47],p_ 3 49 (.un 0 (.t 48)),p_ 4 50 (m_ 49),au 5 51 50 false (f_ 8 1),aY 6 52 50 false (l_ 51),au 7 53 50 false (.ixs 5 (.t 52) (i_ 0)),au 8 54 50 false (f_ 0 53),aY 9 55 50 false (l_ 54),au 10 56 50 false (f_ 7 1),aY 11 57 50 false (l_ 56),au 12 58 50 false (.bin 3 5 (.t 55) (.t 57)),p_ 13 59 (.pick (.t 50) (.c (.bool true)) (.t 58))]) (.cond (.t 59) (.seq (g_ 1 [p_ 0 2 (.mv (.c (.bool false)))]) .ret) .skip)) (.seq (.seq (g_ 1 [p_ 0 8 (.mv (i_ 0))]) (.block 4 (.pre [.can 0 [1,5,8],.up 8,.can 0 [1,5,8]] (.inv 0 Aq)))) (.seq (g_ 4 [p_ 0 74 (f_ 7 1),r_ 1 75 (l_ 74),p_ 2 76 (f_ 7 5),bd 3 (.st 1 (.t 76) (.t 75))]) (g_ 4 [p_ 0 77 (f_ 8 1),r_ 1 78 (l_ 77),p_ 2 79 (f_ 8 5),bd 3 (.st 1 (.t 79) (.t 78))])))) .skip)) (.seq (g_ 4 [r_ 0 80 (.ld true 9 (.t 5)),r_ 1 81 (.ld true 9 (.t 1)),c_ 2 82 26 [.t 80,.t 81],p_ 3 2 (m_ 82)]) .ret)))))))) [(0,[.up 2]),(1,[.up 2])])
theorem Oc:ci Tryz.prog 54 Od=true:=by kernel_rfl
structure fM where
 x:Int
 y:Int
 i:Int
 at_:Int
 mode:Int
 mask:Int
 grp:Int
 hp:Value
 ps:List aB
 j:Int
def FX (p:fM):Prop:=∀x∈p.ps,bA x
def DN (p:fM):Prop:=¬∀x∈p.ps,bA x
noncomputable def kC (p:fM):IL:=((.cons 8 (.sy (.int 0 p.j)) (.cons 5 (.ptr 1 0) (.cons 1 (.ptr 0 0) .nil))),(.node (.node .leaf (some (.blk false 79 9 [[.int 0 (.ofNat 0),.sy (.int 0 p.x),.int 0 (.ofNat 0),.int 0 (.ofNat 0),.int 0 (.ofNat 0),.sy (.int 0 p.mode),.int 3 (.ofNat 0),.int 1 (.ofNat 0),.nilS]])) .leaf) (some (.blk false 79 9 [[.int 0 (.ofNat 0),.sy (.int 0 p.x),.sy (.int 0 p.y),.sy (.int 0 p.i),.sy (.int 0 p.at_),.sy (.int 0 p.mode),.sy (.int 3 p.mask),.sy (.int 1 p.grp),.sy (.imm p.hp 5 aB p.ps aF)]])) .leaf),2)
noncomputable def vY (p:fM) (K:KC):Bool:=ac (iP (FX p) (K 4 (.cons 5 (.ptr 1 0) (.cons 1 (.ptr 0 0) .nil)) (.node (.node .leaf (some (.blk false 79 9 [[.int 0 (.ofNat 0),.sy (.int 0 p.x),.int 0 (.ofNat 0),.int 0 (.ofNat 0),.int 0 (.ofNat 0),.sy (.int 0 p.mode),.int 3 (.ofNat 0),.int 1 (.ofNat 0),.nilS]])) .leaf) (some (.blk false 79 9 [[.int 0 (.ofNat 0),.sy (.int 0 p.x),.sy (.int 0 p.y),.sy (.int 0 p.i),.sy (.int 0 p.at_),.sy (.int 0 p.mode),.sy (.int 3 p.mask),.sy (.int 1 p.grp),.sy (.imm p.hp 5 aB p.ps aF)]])) .leaf) 2) true) (iP (DN p) (K 1 (.cons 2 (.bool false) .nil) .leaf 0) true)
def jA (p:fM):Prop:=p.ps.length≤1000000∧0≤p.j∧p.j≤(p.ps.length:Int)∧(∀x∈p.ps,sR x)∧(∀(j:Nat) y,(j:Int)<p.j→p.ps[j]?=some y→bA y)
noncomputable def tH (p:fM) (K:KC):Bool:=ac (aC (jA p)) (vY p K)
noncomputable def Bu:gO:=fun j S M nx K=>(Bool.rec (false) (aN fun p:fM=>ac (aC ((S,M,nx)=kC p)) (tH p K)) (Nat.beq j 0))
def iL (p:fM):Nat:=((p.ps.length:Int) - p.j).toNat
noncomputable def Iu (s:IL) (n:Nat) (K:KC):Bool:=aN fun q=>mP (s=kC q∧iL q<n) (tH q K)
theorem QU {p q:fM} {K:KC} {s:IL} (hm:iL q<iL p:=by dsimp only[iL]<;>(omega)) (hp:jA q:=by dsimp only[jA]<;>(exact⟨g0,by omega,by omega,g4,vb g5 (by omega) hi2 (by simp_all)⟩)) (hK:vY q K=true:=by exact hK) (e:s=kC q:=by rfl):Iu s (iL p) K=true:=bj q (bl ⟨e,hm⟩ (bl hp hK))
theorem OZ (p:fM) (K:KC) (hpre:jA p) (hK:vY p K=true):(df (cj rr) Bu 600 Aq (kC p).1 (kC p).2.1 (kC p).2.2 (fun e S M nx=>Nat.casesOn e (aN fun q:fM=>ac (aC ((S,M,nx)=kC q∧iL q<iL p)) (tH q K)) (fun e2=>K (Nat.succ e2) S M nx)))=true:=by
 refine Eq.trans (b:=(iP (p.j<(p.ps.length:Int)) (mP (0≤p.j∧p.j<(p.ps.length:Int)) (ai fun x1:aB=>iP (p.ps[p.j.toNat]?=some x1) (aH (([.agg [.sy (.int 1 x1.g),.sy (.int 1 x1.k),.sy (.str x1.key),.sy (.str x1.val),.sy (.int 0 x1.n)]],.leaf,0)) kB dZ dH fun p1 r1=>iP (¬r1.q) (K 1 (.cons 2 (.bool false) .nil) .leaf 0) (mP (bb 0 (p.j+(1:Int))) (Iu ((.cons 8 (.sy (.int 0 (p.j+(1:Int)))) (.cons 5 (.ptr 1 0) (.cons 1 (.ptr 0 0) .nil))),(.node (.node .leaf (some (.blk false 79 9 [[.int 0 (.ofNat 0),.sy (.int 0 p.x),.int 0 (.ofNat 0),.int 0 (.ofNat 0),.int 0 (.ofNat 0),.sy (.int 0 p.mode),.int 3 (.ofNat 0),.int 1 (.ofNat 0),.nilS]])) .leaf) (some (.blk false 79 9 [[.int 0 (.ofNat 0),.sy (.int 0 p.x),.sy (.int 0 p.y),.sy (.int 0 p.i),.sy (.int 0 p.at_),.sy (.int 0 p.mode),.sy (.int 3 p.mask),.sy (.int 1 p.grp),.sy (.imm p.hp 5 aB p.ps aF)]])) .leaf),2) (iL p) K))) true)) (K 4 (.cons 5 (.ptr 1 0) (.cons 1 (.ptr 0 0) .nil)) (.node (.node .leaf (some (.blk false 79 9 [[.int 0 (.ofNat 0),.sy (.int 0 p.x),.int 0 (.ofNat 0),.int 0 (.ofNat 0),.int 0 (.ofNat 0),.sy (.int 0 p.mode),.int 3 (.ofNat 0),.int 1 (.ofNat 0),.nilS]])) .leaf) (some (.blk false 79 9 [[.int 0 (.ofNat 0),.sy (.int 0 p.x),.sy (.int 0 p.y),.sy (.int 0 p.i),.sy (.int 0 p.at_),.sy (.int 0 p.mode),.sy (.int 3 p.mask),.sy (.int 1 p.grp),.sy (.imm p.hp 5 aB p.ps aF)]])) .leaf) 2))) (by kernel_rfl) ?_
 obtain⟨hK0,hKr0⟩:=aj hK
 have hK1:=hKr0
 dsimp only[jA]at hpre
 obtain⟨g0,g1,g2,g4,g5⟩:=hpre
 refine iI (fun hc1=> ?_) (fun hc1=> ?_)
 refine mI (by first|omega|(constructor<;>omega)|(have e9:=(by assumption:_↔ft _);unfold ft at e9;have e8:=e9.1 (by first|assumption|exact Classical.not_not.1 (by assumption));omega)) ?_
 refine am (fun x1=> ?_)
 refine iI (fun hi2=> ?_) (fun _=>rfl)
 have hg_x1:=g4 _ (aaG (by assumption:p.ps[p.j.toNat]?=some x1))
 refine ay (⟨x1⟩:iw) rfl (by(try dsimp only[dZ]);assumption) fun r1 hi3=> ?_
 dsimp only[dH]at hi3
 refine iI (fun hc4=> ?_) (fun hc4=> ?_)
 exact aq (show¬∀x∈p.ps,bA x from(by exact Cb hi2 (by simp_all))) hK1
 refine fe ?_
 exact QU (q:=⟨p.x,p.y,p.i,p.at_,p.mode,p.mask,p.grp,p.hp,p.ps,p.j+(1:Int)⟩)
 exact aq (show∀x∈p.ps,bA x from(by exact tv g5 (by omega))) hK0
theorem Qk:dR Tryz.prog 83 0 Bu true 0 Aq:=by
 exact gm (lf:=600) bH (aQ qq) (by rfl) kC iL tH (fun b j x h=>by cases h) (fun S M nx K h=>by obtain⟨p,h⟩:=bR h;exact⟨p,(aa h).1,(aa h).2⟩) (fun p K h=>OZ p K (aa h).1 (aa h).2)
structure pA where
 o:aI
structure MB where
 q:Prop
def mK (p:pA) (r:MB):Prop:=r.q↔cS p.o
noncomputable def vi (p:pA):IE:=([.agg [.sy (.int 0 p.o.kind),.sy (.int 0 p.o.x),.sy (.int 0 p.o.y),.sy (.int 0 p.o.i),.sy (.int 0 p.o.at_),.sy (.int 0 p.o.mode),.sy (.int 3 p.o.mask),.sy (.int 1 p.o.grp),.sy (.imm p.o.hp 5 aB p.o.ps aF)]],.leaf,0)
noncomputable def CF (p:pA) (K:KE):Bool:=ai fun r:MB=>iP (mK p r) (K (.sy (.bool r.q)) .leaf 0) true
def kp (p:pA):Prop:=p.o.ps.length≤1000000∧(0≤p.o.mask∧p.o.mask≤4294967295)∧∀x∈p.o.ps,sR x
theorem ax {p:pA} {K:KE} (hK:CF p K=true) (r:MB) (h:mK p r:=by dsimp only[mK]<;>((first|rw[Bg (by assumption)]|rw[LD (by assumption)]|rw[LC (by assumption)]|rw[LB (by assumption)]|rw[LA (by assumption)]|rw[Lz (by assumption)]|rw[Ly (by assumption)]|rw[Lx (by assumption)]|rw[Lw (by assumption)]|rw[Lv (by assumption)]|rw[Gm (by assumption)]|rw[Gl (by assumption)]|rw[iff_false_intro (Gk (by omega))]);first|(simp_all;done)|(simp_all;omega)|((try unfold ft);simp_all;done)|((try unfold ft);simp_all;omega)|((try unfold ft);constructor<;>intro h<;>simp_all<;>omega)|(constructor<;>intro h<;>simp_all<;>omega)|omega)):K (.sy (.bool r.q)) .leaf 0=true:=aq h (az hK r)
theorem Up (p:pA) (K:KE) (hpre:kp p) (hK:CF p K=true):(cw 0 (cj rr) Bu 600 Od (vi p).1 (vi p).2.1 (vi p).2.2 K)=true:=by
 refine Eq.trans (b:=(let z0:Bool:=(K (.sy (.bool (false=true))) .leaf 0);iP (p.o.kind=0) (iP (p.o.x<(0:Int)) z0 (iP ((1099511627776:Int)<p.o.x) z0 (iP (p.o.mode<(0:Int)) z0 (iP ((1099511627776:Int)<p.o.mode) z0 (aH (([.sy (.imm p.o.hp 5 aB p.o.ps aF)],.leaf,0)) xw qa nv fun p13 r12=>iP (¬r12.q) z0 (mP (0≤(0:Int)∧(0:Int)<(p.o.ps.length:Int)) (ai fun x1:aB=>iP (p.o.ps[0]?=some x1) (iP (¬x1.g=p.o.grp) z0 (aN fun p14:fM=>mP (((.cons 8 (.sy (.int 0 0)) (.cons 5 (.ptr 1 0) (.cons 1 (.ptr 0 0) .nil))),(.node (.node .leaf (some (.blk false 79 9 [[.int 0 (.ofNat 0),.sy (.int 0 p.o.x),.int 0 (.ofNat 0),.int 0 (.ofNat 0),.int 0 (.ofNat 0),.sy (.int 0 p.o.mode),.int 3 (.ofNat 0),.int 1 (.ofNat 0),.nilS]])) .leaf) (some (.blk false 79 9 [[.int 0 (.ofNat 0),.sy (.int 0 p.o.x),.sy (.int 0 p.o.y),.sy (.int 0 p.o.i),.sy (.int 0 p.o.at_),.sy (.int 0 p.o.mode),.sy (.int 3 p.o.mask),.sy (.int 1 p.o.grp),.sy (.imm p.o.hp 5 aB p.o.ps aF)]])) .leaf),2)=kC p14) (mP (jA p14) (ac (iP (FX p14) (iP (p14.x=p14.x) (iP ((0:Int)=p14.y) (iP ((0:Int)=p14.i) (iP ((0:Int)=p14.at_) (iP (p14.mode=p14.mode) (iP ((0:Int)=p14.mask) (iP (p14.grp=p14.grp) (aH (([.sy (.imm p14.hp 5 aB p14.ps aF),.sy (.imm p14.hp 5 aB p14.ps aF)],.leaf,0)) pL jw iK fun p15 r13=>K (.sy (.bool r13.q)) .leaf 0) z0) z0) z0) z0) z0) z0) z0) true) (iP (DN p14) z0 true))))) true))))))) (iP (p.o.kind=1) (iP (p.o.x<(0:Int)) z0 (iP ((1099511627776:Int)<p.o.x) z0 (iP (p.o.y<(0:Int)) z0 (iP ((1099511627776:Int)<p.o.y) z0 (iP (p.o.x=p.o.x) (iP (p.o.y=p.o.y) (iP ((0:Int)=p.o.i) (iP ((0:Int)=p.o.at_) (iP ((0:Int)=p.o.mode) (iP ((0:Int)=p.o.mask) (iP ((0:Int)=p.o.grp) (aN fun p12:ca=>mP (([.nilS,.sy (.imm p.o.hp 5 aB p.o.ps aF)],.leaf,0)=dY p12) (ai fun r11:eD=>iP (bK p12 r11) (K (.sy (.bool r11.q)) .leaf 0) true)) z0) z0) z0) z0) z0) z0) z0))))) (iP (p.o.kind=2) (iP (p.o.i<(0:Int)) z0 (iP ((1099511627776:Int)<p.o.i) z0 (iP ((0:Int)=p.o.x) (iP ((0:Int)=p.o.y) (iP (p.o.i=p.o.i) (iP ((0:Int)=p.o.at_) (iP ((0:Int)=p.o.mode) (iP ((0:Int)=p.o.mask) (iP ((0:Int)=p.o.grp) (aN fun p11:ca=>mP (([.nilS,.sy (.imm p.o.hp 5 aB p.o.ps aF)],.leaf,0)=dY p11) (ai fun r10:eD=>iP (bK p11 r10) (K (.sy (.bool r10.q)) .leaf 0) true)) z0) z0) z0) z0) z0) z0) z0))) (iP (p.o.kind=3) (iP (p.o.i<(0:Int)) z0 (iP ((1099511627776:Int)<p.o.i) z0 (iP ((0:Int)=p.o.x) (iP ((0:Int)=p.o.y) (iP (p.o.i=p.o.i) (iP ((0:Int)=p.o.at_) (iP ((0:Int)=p.o.mode) (iP ((0:Int)=p.o.mask) (iP ((0:Int)=p.o.grp) (aN fun p10:ca=>mP (([.nilS,.sy (.imm p.o.hp 5 aB p.o.ps aF)],.leaf,0)=dY p10) (ai fun r9:eD=>iP (bK p10 r9) (K (.sy (.bool r9.q)) .leaf 0) true)) z0) z0) z0) z0) z0) z0) z0))) (iP (p.o.kind=4) (iP (p.o.i<(0:Int)) z0 (iP ((1099511627776:Int)<p.o.i) z0 (iP ((0:Int)=p.o.x) (iP ((0:Int)=p.o.y) (iP (p.o.i=p.o.i) (iP ((0:Int)=p.o.at_) (iP ((0:Int)=p.o.mode) (iP ((0:Int)=p.o.mask) (iP ((0:Int)=p.o.grp) (aN fun p9:ca=>mP (([.nilS,.sy (.imm p.o.hp 5 aB p.o.ps aF)],.leaf,0)=dY p9) (ai fun r8:eD=>iP (bK p9 r8) (K (.sy (.bool r8.q)) .leaf 0) true)) z0) z0) z0) z0) z0) z0) z0))) (iP (p.o.kind=5) (iP (p.o.i<(0:Int)) z0 (iP ((1099511627776:Int)<p.o.i) z0 (iP (p.o.at_<(0:Int)) z0 (iP ((1099511627776:Int)<p.o.at_) z0 (mP (bb 0 p.o.mask) (iP (p.o.mask<(0:Int)) z0 (iP ((1099511627776:Int)<p.o.mask) z0 (mP (bb 3 p.o.mask) (iP ((0:Int)=p.o.x) (iP ((0:Int)=p.o.y) (iP (p.o.i=p.o.i) (iP (p.o.at_=p.o.at_) (iP ((0:Int)=p.o.mode) (iP (p.o.mask=p.o.mask) (iP ((0:Int)=p.o.grp) (aN fun p8:ca=>mP (([.nilS,.sy (.imm p.o.hp 5 aB p.o.ps aF)],.leaf,0)=dY p8) (ai fun r7:eD=>iP (bK p8 r7) (K (.sy (.bool r7.q)) .leaf 0) true)) z0) z0) z0) z0) z0) z0) z0))))))))) (iP (p.o.kind=6) (iP (p.o.x<(0:Int)) z0 (iP ((1099511627776:Int)<p.o.x) z0 (iP (p.o.x=p.o.x) (iP ((0:Int)=p.o.y) (iP ((0:Int)=p.o.i) (iP ((0:Int)=p.o.at_) (iP ((0:Int)=p.o.mode) (iP ((0:Int)=p.o.mask) (iP ((0:Int)=p.o.grp) (aN fun p7:ca=>mP (([.nilS,.sy (.imm p.o.hp 5 aB p.o.ps aF)],.leaf,0)=dY p7) (ai fun r6:eD=>iP (bK p7 r6) (K (.sy (.bool r6.q)) .leaf 0) true)) z0) z0) z0) z0) z0) z0) z0))) (iP (p.o.kind=7) (iP (p.o.x<(0:Int)) z0 (iP ((1099511627776:Int)<p.o.x) z0 (iP (p.o.y<(0:Int)) z0 (iP ((1099511627776:Int)<p.o.y) z0 (iP (p.o.x=p.o.x) (iP (p.o.y=p.o.y) (iP ((0:Int)=p.o.i) (iP ((0:Int)=p.o.at_) (iP ((0:Int)=p.o.mode) (iP ((0:Int)=p.o.mask) (iP ((0:Int)=p.o.grp) (aN fun p6:ca=>mP (([.nilS,.sy (.imm p.o.hp 5 aB p.o.ps aF)],.leaf,0)=dY p6) (ai fun r5:eD=>iP (bK p6 r5) (K (.sy (.bool r5.q)) .leaf 0) true)) z0) z0) z0) z0) z0) z0) z0))))) (iP (p.o.kind=8) (iP (p.o.x<(0:Int)) z0 (iP ((1099511627776:Int)<p.o.x) z0 (iP (p.o.x=p.o.x) (iP ((0:Int)=p.o.y) (iP ((0:Int)=p.o.i) (iP ((0:Int)=p.o.at_) (iP ((0:Int)=p.o.mode) (iP ((0:Int)=p.o.mask) (iP ((0:Int)=p.o.grp) (aN fun p5:ca=>mP (([.nilS,.sy (.imm p.o.hp 5 aB p.o.ps aF)],.leaf,0)=dY p5) (ai fun r4:eD=>iP (bK p5 r4) (K (.sy (.bool r4.q)) .leaf 0) true)) z0) z0) z0) z0) z0) z0) z0))) (iP (p.o.kind=9) (iP (p.o.x<(0:Int)) z0 (iP ((1099511627776:Int)<p.o.x) z0 (iP (p.o.x=p.o.x) (iP ((0:Int)=p.o.y) (iP ((0:Int)=p.o.i) (iP ((0:Int)=p.o.at_) (iP ((0:Int)=p.o.mode) (iP ((0:Int)=p.o.mask) (iP ((0:Int)=p.o.grp) (aN fun p4:ca=>mP (([.nilS,.sy (.imm p.o.hp 5 aB p.o.ps aF)],.leaf,0)=dY p4) (ai fun r3:eD=>iP (bK p4 r3) (K (.sy (.bool r3.q)) .leaf 0) true)) z0) z0) z0) z0) z0) z0) z0))) (iP (p.o.kind=10) (iP (p.o.x<(0:Int)) z0 (iP ((1099511627776:Int)<p.o.x) z0 (iP (p.o.x=p.o.x) (iP ((0:Int)=p.o.y) (iP ((0:Int)=p.o.i) (iP ((0:Int)=p.o.at_) (iP ((0:Int)=p.o.mode) (iP ((0:Int)=p.o.mask) (iP ((0:Int)=p.o.grp) (aN fun p3:ca=>mP (([.nilS,.sy (.imm p.o.hp 5 aB p.o.ps aF)],.leaf,0)=dY p3) (ai fun r2:eD=>iP (bK p3 r2) (K (.sy (.bool r2.q)) .leaf 0) true)) z0) z0) z0) z0) z0) z0) z0))) (iP (p.o.kind=11) (iP (p.o.x<(0:Int)) z0 (iP ((1099511627776:Int)<p.o.x) z0 (iP (p.o.x=p.o.x) (iP ((0:Int)=p.o.y) (iP ((0:Int)=p.o.i) (iP ((0:Int)=p.o.at_) (iP ((0:Int)=p.o.mode) (iP ((0:Int)=p.o.mask) (iP ((0:Int)=p.o.grp) (aN fun p2:ca=>mP (([.nilS,.sy (.imm p.o.hp 5 aB p.o.ps aF)],.leaf,0)=dY p2) (ai fun r1:eD=>iP (bK p2 r1) (K (.sy (.bool r1.q)) .leaf 0) true)) z0) z0) z0) z0) z0) z0) z0))) (aN fun p1:kJ=>mP (([.sy (.int 0 p.o.kind)],.leaf,0)=mY p1) (mP (ju p1) z0))))))))))))))) (by kernel_rfl) ?_
 dsimp only[kp]at hpre
 obtain⟨hl,hmk,hrg⟩:=hpre
 refine iI (fun hc1=> ?_) (fun hc1=> ?_)
 refine iI (fun hc2=> ?_) (fun hc2=> ?_)
 exact ax hK ⟨false=true⟩
 refine iI (fun hc3=> ?_) (fun hc3=> ?_)
 exact ax hK ⟨false=true⟩
 refine iI (fun hc4=> ?_) (fun hc4=> ?_)
 exact ax hK ⟨false=true⟩
 refine iI (fun hc5=> ?_) (fun hc5=> ?_)
 exact ax hK ⟨false=true⟩
 refine ay (⟨p.o.hp,p.o.ps⟩:ra) rfl (by(try dsimp only[qa]);exact⟨by omega,by assumption⟩) fun r12 hi6=> ?_
 dsimp only[nv]at hi6
 refine iI (fun hc7=> ?_) (fun hc7=> ?_)
 exact ax hK ⟨false=true⟩
 refine mI (by first|omega|(constructor<;>omega)|(have e9:=(by assumption:_↔ft _);unfold ft at e9;have e8:=e9.1 (by first|assumption|exact Classical.not_not.1 (by assumption));omega)) ?_
 refine am (fun x1=> ?_)
 refine iI (fun hi8=> ?_) (fun _=>rfl)
 refine iI (fun hc9=> ?_) (fun hc9=> ?_)
 exact ax hK ⟨false=true⟩
 refine eX (⟨p.o.x,p.o.y,p.o.i,p.o.at_,p.o.mode,p.o.mask,p.o.grp,p.o.hp,p.o.ps,(0:Int)⟩:fM) rfl (by(try dsimp only[jA]);exact⟨hl,by omega,by omega,hrg,fun j y h1 h2=>by omega⟩) ?_
 refine aE ?_ ?_
 refine iI (p:=∀x∈p.o.ps,bA x) (fun hi10=> ?_) (fun _=>rfl)
 refine iI (p:=p.o.x=p.o.x) (fun hc11=> ?_) (fun hc11=> ?_)
 refine iI (p:=(0:Int)=p.o.y) (fun hc12=> ?_) (fun hc12=> ?_)
 refine iI (p:=(0:Int)=p.o.i) (fun hc13=> ?_) (fun hc13=> ?_)
 refine iI (p:=(0:Int)=p.o.at_) (fun hc14=> ?_) (fun hc14=> ?_)
 refine iI (p:=p.o.mode=p.o.mode) (fun hc15=> ?_) (fun hc15=> ?_)
 refine iI (p:=(0:Int)=p.o.mask) (fun hc16=> ?_) (fun hc16=> ?_)
 refine iI (p:=p.o.grp=p.o.grp) (fun hc17=> ?_) (fun hc17=> ?_)
 refine ay (⟨p.o.hp,p.o.ps,p.o.hp,p.o.ps⟩:mj) rfl (by(try dsimp only[jw]);omega) fun r13 hi18=> ?_
 dsimp only[iK]at hi18
 exact ax hK ⟨r13.q⟩
 exact ax hK ⟨false=true⟩
 exact ax hK ⟨false=true⟩
 exact ax hK ⟨false=true⟩
 exact ax hK ⟨false=true⟩
 exact ax hK ⟨false=true⟩
 exact ax hK ⟨false=true⟩
 exact ax hK ⟨false=true⟩
 refine iI (p:=¬∀x∈p.o.ps,bA x) (fun hi19=> ?_) (fun _=>rfl)
 exact ax hK ⟨false=true⟩
 refine iI (fun hc20=> ?_) (fun hc20=> ?_)
 refine iI (fun hc21=> ?_) (fun hc21=> ?_)
 exact ax hK ⟨false=true⟩
 refine iI (fun hc22=> ?_) (fun hc22=> ?_)
 exact ax hK ⟨false=true⟩
 refine iI (fun hc23=> ?_) (fun hc23=> ?_)
 exact ax hK ⟨false=true⟩
 refine iI (fun hc24=> ?_) (fun hc24=> ?_)
 exact ax hK ⟨false=true⟩
 refine iI (fun hc25=> ?_) (fun hc25=> ?_)
 refine iI (fun hc26=> ?_) (fun hc26=> ?_)
 refine iI (fun hc27=> ?_) (fun hc27=> ?_)
 refine iI (fun hc28=> ?_) (fun hc28=> ?_)
 refine iI (fun hc29=> ?_) (fun hc29=> ?_)
 refine iI (fun hc30=> ?_) (fun hc30=> ?_)
 refine iI (fun hc31=> ?_) (fun hc31=> ?_)
 refine cU (⟨p.o.hp,p.o.ps⟩:ca) rfl fun r11 hi32=> ?_
 dsimp only[bK]at hi32
 exact ax hK ⟨r11.q⟩
 exact ax hK ⟨false=true⟩
 exact ax hK ⟨false=true⟩
 exact ax hK ⟨false=true⟩
 exact ax hK ⟨false=true⟩
 exact ax hK ⟨false=true⟩
 exact ax hK ⟨false=true⟩
 exact ax hK ⟨false=true⟩
 refine iI (fun hc33=> ?_) (fun hc33=> ?_)
 refine iI (fun hc34=> ?_) (fun hc34=> ?_)
 exact ax hK ⟨false=true⟩
 refine iI (fun hc35=> ?_) (fun hc35=> ?_)
 exact ax hK ⟨false=true⟩
 refine iI (fun hc36=> ?_) (fun hc36=> ?_)
 refine iI (fun hc37=> ?_) (fun hc37=> ?_)
 refine iI (fun hc38=> ?_) (fun hc38=> ?_)
 refine iI (fun hc39=> ?_) (fun hc39=> ?_)
 refine iI (fun hc40=> ?_) (fun hc40=> ?_)
 refine iI (fun hc41=> ?_) (fun hc41=> ?_)
 refine iI (fun hc42=> ?_) (fun hc42=> ?_)
 refine cU (⟨p.o.hp,p.o.ps⟩:ca) rfl fun r10 hi43=> ?_
 dsimp only[bK]at hi43
 exact ax hK ⟨r10.q⟩
 exact ax hK ⟨false=true⟩
 exact ax hK ⟨false=true⟩
 exact ax hK ⟨false=true⟩
 exact ax hK ⟨false=true⟩
 exact ax hK ⟨false=true⟩
 exact ax hK ⟨false=true⟩
 exact ax hK ⟨false=true⟩
 refine iI (fun hc44=> ?_) (fun hc44=> ?_)
 refine iI (fun hc45=> ?_) (fun hc45=> ?_)
 exact ax hK ⟨false=true⟩
 refine iI (fun hc46=> ?_) (fun hc46=> ?_)
 exact ax hK ⟨false=true⟩
 refine iI (fun hc47=> ?_) (fun hc47=> ?_)
 refine iI (fun hc48=> ?_) (fun hc48=> ?_)
 refine iI (fun hc49=> ?_) (fun hc49=> ?_)
 refine iI (fun hc50=> ?_) (fun hc50=> ?_)
 refine iI (fun hc51=> ?_) (fun hc51=> ?_)
 refine iI (fun hc52=> ?_) (fun hc52=> ?_)
 refine iI (fun hc53=> ?_) (fun hc53=> ?_)
 refine cU (⟨p.o.hp,p.o.ps⟩:ca) rfl fun r9 hi54=> ?_
 dsimp only[bK]at hi54
 exact ax hK ⟨r9.q⟩
 exact ax hK ⟨false=true⟩
 exact ax hK ⟨false=true⟩
 exact ax hK ⟨false=true⟩
 exact ax hK ⟨false=true⟩
 exact ax hK ⟨false=true⟩
 exact ax hK ⟨false=true⟩
 exact ax hK ⟨false=true⟩
 refine iI (fun hc55=> ?_) (fun hc55=> ?_)
 refine iI (fun hc56=> ?_) (fun hc56=> ?_)
 exact ax hK ⟨false=true⟩
 refine iI (fun hc57=> ?_) (fun hc57=> ?_)
 exact ax hK ⟨false=true⟩
 refine iI (fun hc58=> ?_) (fun hc58=> ?_)
 refine iI (fun hc59=> ?_) (fun hc59=> ?_)
 refine iI (fun hc60=> ?_) (fun hc60=> ?_)
 refine iI (fun hc61=> ?_) (fun hc61=> ?_)
 refine iI (fun hc62=> ?_) (fun hc62=> ?_)
 refine iI (fun hc63=> ?_) (fun hc63=> ?_)
 refine iI (fun hc64=> ?_) (fun hc64=> ?_)
 refine cU (⟨p.o.hp,p.o.ps⟩:ca) rfl fun r8 hi65=> ?_
 dsimp only[bK]at hi65
 exact ax hK ⟨r8.q⟩
 exact ax hK ⟨false=true⟩
 exact ax hK ⟨false=true⟩
 exact ax hK ⟨false=true⟩
 exact ax hK ⟨false=true⟩
 exact ax hK ⟨false=true⟩
 exact ax hK ⟨false=true⟩
 exact ax hK ⟨false=true⟩
 refine iI (fun hc66=> ?_) (fun hc66=> ?_)
 refine iI (fun hc67=> ?_) (fun hc67=> ?_)
 exact ax hK ⟨false=true⟩
 refine iI (fun hc68=> ?_) (fun hc68=> ?_)
 exact ax hK ⟨false=true⟩
 refine iI (fun hc69=> ?_) (fun hc69=> ?_)
 exact ax hK ⟨false=true⟩
 refine iI (fun hc70=> ?_) (fun hc70=> ?_)
 exact ax hK ⟨false=true⟩
 refine fe ?_
 refine iI (fun hc71=> ?_) (fun hc71=> ?_)
 exact ax hK ⟨false=true⟩
 refine iI (fun hc72=> ?_) (fun hc72=> ?_)
 exact ax hK ⟨false=true⟩
 refine fe ?_
 refine iI (fun hc73=> ?_) (fun hc73=> ?_)
 refine iI (fun hc74=> ?_) (fun hc74=> ?_)
 refine iI (fun hc75=> ?_) (fun hc75=> ?_)
 refine iI (fun hc76=> ?_) (fun hc76=> ?_)
 refine iI (fun hc77=> ?_) (fun hc77=> ?_)
 refine iI (fun hc78=> ?_) (fun hc78=> ?_)
 refine iI (fun hc79=> ?_) (fun hc79=> ?_)
 refine cU (⟨p.o.hp,p.o.ps⟩:ca) rfl fun r7 hi80=> ?_
 dsimp only[bK]at hi80
 exact ax hK ⟨r7.q⟩
 exact ax hK ⟨false=true⟩
 exact ax hK ⟨false=true⟩
 exact ax hK ⟨false=true⟩
 exact ax hK ⟨false=true⟩
 exact ax hK ⟨false=true⟩
 exact ax hK ⟨false=true⟩
 exact ax hK ⟨false=true⟩
 refine iI (fun hc81=> ?_) (fun hc81=> ?_)
 refine iI (fun hc82=> ?_) (fun hc82=> ?_)
 exact ax hK ⟨false=true⟩
 refine iI (fun hc83=> ?_) (fun hc83=> ?_)
 exact ax hK ⟨false=true⟩
 refine iI (fun hc84=> ?_) (fun hc84=> ?_)
 refine iI (fun hc85=> ?_) (fun hc85=> ?_)
 refine iI (fun hc86=> ?_) (fun hc86=> ?_)
 refine iI (fun hc87=> ?_) (fun hc87=> ?_)
 refine iI (fun hc88=> ?_) (fun hc88=> ?_)
 refine iI (fun hc89=> ?_) (fun hc89=> ?_)
 refine iI (fun hc90=> ?_) (fun hc90=> ?_)
 refine cU (⟨p.o.hp,p.o.ps⟩:ca) rfl fun r6 hi91=> ?_
 dsimp only[bK]at hi91
 exact ax hK ⟨r6.q⟩
 exact ax hK ⟨false=true⟩
 exact ax hK ⟨false=true⟩
 exact ax hK ⟨false=true⟩
 exact ax hK ⟨false=true⟩
 exact ax hK ⟨false=true⟩
 exact ax hK ⟨false=true⟩
 exact ax hK ⟨false=true⟩
 refine iI (fun hc92=> ?_) (fun hc92=> ?_)
 refine iI (fun hc93=> ?_) (fun hc93=> ?_)
 exact ax hK ⟨false=true⟩
 refine iI (fun hc94=> ?_) (fun hc94=> ?_)
 exact ax hK ⟨false=true⟩
 refine iI (fun hc95=> ?_) (fun hc95=> ?_)
 exact ax hK ⟨false=true⟩
 refine iI (fun hc96=> ?_) (fun hc96=> ?_)
 exact ax hK ⟨false=true⟩
 refine iI (fun hc97=> ?_) (fun hc97=> ?_)
 refine iI (fun hc98=> ?_) (fun hc98=> ?_)
 refine iI (fun hc99=> ?_) (fun hc99=> ?_)
 refine iI (fun hc100=> ?_) (fun hc100=> ?_)
 refine iI (fun hc101=> ?_) (fun hc101=> ?_)
 refine iI (fun hc102=> ?_) (fun hc102=> ?_)
 refine iI (fun hc103=> ?_) (fun hc103=> ?_)
 refine cU (⟨p.o.hp,p.o.ps⟩:ca) rfl fun r5 hi104=> ?_
 dsimp only[bK]at hi104
 exact ax hK ⟨r5.q⟩
 exact ax hK ⟨false=true⟩
 exact ax hK ⟨false=true⟩
 exact ax hK ⟨false=true⟩
 exact ax hK ⟨false=true⟩
 exact ax hK ⟨false=true⟩
 exact ax hK ⟨false=true⟩
 exact ax hK ⟨false=true⟩
 refine iI (fun hc105=> ?_) (fun hc105=> ?_)
 refine iI (fun hc106=> ?_) (fun hc106=> ?_)
 exact ax hK ⟨false=true⟩
 refine iI (fun hc107=> ?_) (fun hc107=> ?_)
 exact ax hK ⟨false=true⟩
 refine iI (fun hc108=> ?_) (fun hc108=> ?_)
 refine iI (fun hc109=> ?_) (fun hc109=> ?_)
 refine iI (fun hc110=> ?_) (fun hc110=> ?_)
 refine iI (fun hc111=> ?_) (fun hc111=> ?_)
 refine iI (fun hc112=> ?_) (fun hc112=> ?_)
 refine iI (fun hc113=> ?_) (fun hc113=> ?_)
 refine iI (fun hc114=> ?_) (fun hc114=> ?_)
 refine cU (⟨p.o.hp,p.o.ps⟩:ca) rfl fun r4 hi115=> ?_
 dsimp only[bK]at hi115
 exact ax hK ⟨r4.q⟩
 exact ax hK ⟨false=true⟩
 exact ax hK ⟨false=true⟩
 exact ax hK ⟨false=true⟩
 exact ax hK ⟨false=true⟩
 exact ax hK ⟨false=true⟩
 exact ax hK ⟨false=true⟩
 exact ax hK ⟨false=true⟩
 refine iI (fun hc116=> ?_) (fun hc116=> ?_)
 refine iI (fun hc117=> ?_) (fun hc117=> ?_)
 exact ax hK ⟨false=true⟩
 refine iI (fun hc118=> ?_) (fun hc118=> ?_)
 exact ax hK ⟨false=true⟩
 refine iI (fun hc119=> ?_) (fun hc119=> ?_)
 refine iI (fun hc120=> ?_) (fun hc120=> ?_)
 refine iI (fun hc121=> ?_) (fun hc121=> ?_)
 refine iI (fun hc122=> ?_) (fun hc122=> ?_)
 refine iI (fun hc123=> ?_) (fun hc123=> ?_)
 refine iI (fun hc124=> ?_) (fun hc124=> ?_)
 refine iI (fun hc125=> ?_) (fun hc125=> ?_)
 refine cU (⟨p.o.hp,p.o.ps⟩:ca) rfl fun r3 hi126=> ?_
 dsimp only[bK]at hi126
 exact ax hK ⟨r3.q⟩
 exact ax hK ⟨false=true⟩
 exact ax hK ⟨false=true⟩
 exact ax hK ⟨false=true⟩
 exact ax hK ⟨false=true⟩
 exact ax hK ⟨false=true⟩
 exact ax hK ⟨false=true⟩
 exact ax hK ⟨false=true⟩
 refine iI (fun hc127=> ?_) (fun hc127=> ?_)
 refine iI (fun hc128=> ?_) (fun hc128=> ?_)
 exact ax hK ⟨false=true⟩
 refine iI (fun hc129=> ?_) (fun hc129=> ?_)
 exact ax hK ⟨false=true⟩
 refine iI (fun hc130=> ?_) (fun hc130=> ?_)
 refine iI (fun hc131=> ?_) (fun hc131=> ?_)
 refine iI (fun hc132=> ?_) (fun hc132=> ?_)
 refine iI (fun hc133=> ?_) (fun hc133=> ?_)
 refine iI (fun hc134=> ?_) (fun hc134=> ?_)
 refine iI (fun hc135=> ?_) (fun hc135=> ?_)
 refine iI (fun hc136=> ?_) (fun hc136=> ?_)
 refine cU (⟨p.o.hp,p.o.ps⟩:ca) rfl fun r2 hi137=> ?_
 dsimp only[bK]at hi137
 exact ax hK ⟨r2.q⟩
 exact ax hK ⟨false=true⟩
 exact ax hK ⟨false=true⟩
 exact ax hK ⟨false=true⟩
 exact ax hK ⟨false=true⟩
 exact ax hK ⟨false=true⟩
 exact ax hK ⟨false=true⟩
 exact ax hK ⟨false=true⟩
 refine iI (fun hc138=> ?_) (fun hc138=> ?_)
 refine iI (fun hc139=> ?_) (fun hc139=> ?_)
 exact ax hK ⟨false=true⟩
 refine iI (fun hc140=> ?_) (fun hc140=> ?_)
 exact ax hK ⟨false=true⟩
 refine iI (fun hc141=> ?_) (fun hc141=> ?_)
 refine iI (fun hc142=> ?_) (fun hc142=> ?_)
 refine iI (fun hc143=> ?_) (fun hc143=> ?_)
 refine iI (fun hc144=> ?_) (fun hc144=> ?_)
 refine iI (fun hc145=> ?_) (fun hc145=> ?_)
 refine iI (fun hc146=> ?_) (fun hc146=> ?_)
 refine iI (fun hc147=> ?_) (fun hc147=> ?_)
 refine cU (⟨p.o.hp,p.o.ps⟩:ca) rfl fun r1 hi148=> ?_
 dsimp only[bK]at hi148
 exact ax hK ⟨r1.q⟩
 exact ax hK ⟨false=true⟩
 exact ax hK ⟨false=true⟩
 exact ax hK ⟨false=true⟩
 exact ax hK ⟨false=true⟩
 exact ax hK ⟨false=true⟩
 exact ax hK ⟨false=true⟩
 exact ax hK ⟨false=true⟩
 refine eX (⟨p.o.kind⟩:kJ) rfl (by(try dsimp only[ju]);omega) ?_
 exact ax hK ⟨false=true⟩
noncomputable def xQ:=bN rr 0 (ck vi (dP kp CF)) 54 [(0,15)]
theorem uD:aZ Tryz.prog xQ:=aR (cM (f:=54) (k:=0) (lp:=Bu) (lf:=600) bH (aQ qq) Oc (by rfl) (fun b j x h=>(cG Qk (fun h=>(by cases h)) h)) fun p K h=>Up p K (aa h).1 (aa h).2) qq
end Go.Proofs.Tryz
