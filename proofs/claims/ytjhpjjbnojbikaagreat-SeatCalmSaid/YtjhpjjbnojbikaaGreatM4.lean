/- Definitions and lemmas of the proof, without a condition of their own. -/
import Derived.Test.YtjhpjjbnojbikaaGreatM3
import Derived.KernelRfl
open List renaming length_append→akk,length_cons→akl,length_drop→akG,length_nil→akn,length_take→aky
open Nat renaming le_refl→akz
namespace Go.Proofs.Tryz
open Go.Proofs.YtjhpjjbnojbikaaGreat (gw gN ii jj kU oS)
open Go Go.RowKit Go.Sy
open Go.Eng hiding ah
set_option maxRecDepth 1000000
set_option linter.unusedVariables false
set_option maxHeartbeats 4000000
def lh:XF:=.mk 105 (.one 8) (.seq (g_ 3 [e_ 0 6 (.box 52 (.t 2)),e_ 1 7 (.box 74 (.t 3)),p_ 2 8 (.mv (.c .nilS))]) (.seq (.seq (g_ 9 [p_ 0 10 (m_ 0),c_ 1 11 32 [.t 10],p_ 2 12 (m_ 11),am 3 13 12 false (m_ 0),aU 4 14 12 false (.ld true 2 (.t 6)),aU 5 15 12 false (.ld true 31 (.t 7)),da 6 16 12 false 74 [.t 13,.t 14,.t 15],am 7 17 12 false (.un 0 (.t 16)),p_ 8 18 (.pick (.t 12) (.c (.bool true)) (.t 17))]) (.cond (.t 18) (.seq (g_ 1 [p_ 0 8 (.mv (.c .nilS))]) .ret) .skip)) (.seq (h_ 10 [p_ 0 19 (f_ 3 7),r_ 1 20 (l_ 19),p_ 2 21 (m_ 0),p_ 3 22 (n_ 21),p_ 4 23 (f_ 0 22),p_ 5 24 (f_ 0 23),p_ 6 25 (f_ 1 24),r_ 7 26 (l_ 25),p_ 8 27 (.bin 3 0 (.t 20) (.t 26)),p_ 9 9 (m_ 27)]) (.seq (.seq (g_ 2 [p_ 0 28 (f_ 0 7),r_ 1 29 (l_ 28)]) (.block 2 (.seq (.block 7 (.seq (.block 6 (.seq (.block 5 (.seq (.block 4 (.seq (.block 3 (.seq (.seq (.seq (g_ 2 [p_ 0 31 (.bin 3 4 (.t 29) (.c (.int 1 (.ofNat 10)))),p_ 1 30 (m_ 31)]) (.cond (.t 30) (.exit 3) .skip)) (.seq (.seq (g_ 2 [p_ 0 33 (.bin 3 4 (.t 29) (.c (.int 1 (.ofNat 3)))),p_ 1 32 (m_ 33)]) (.cond (.t 32) (.exit 4) .skip)) (.seq (.seq (.seq (g_ 2 [p_ 0 35 (.bin 3 4 (.t 29) (.c (.int 1 (.ofNat 4)))),p_ 1 34 (m_ 35)]) (.cond (.t 34) .skip (.seq (g_ 2 [p_ 0 36 (.bin 3 4 (.t 29) (.c (.int 1 (.ofNat 5)))),p_ 1 34 (m_ 36)]) (.cond (.t 34) .skip (g_ 2 [p_ 0 37 (.bin 3 4 (.t 29) (.c (.int 1 (.ofNat 9)))),p_ 1 34 (m_ 37)]))))) (.cond (.t 34) (.exit 5) .skip)) (.seq (.seq (g_ 2 [p_ 0 39 (.bin 3 4 (.t 29) (.c (.int 1 (.ofNat 11)))),p_ 1 38 (m_ 39)]) (.cond (.t 38) (.exit 6) .skip)) (.seq (g_ 2 [p_ 0 41 (.bin 3 4 (.t 29) (.c (.int 1 (.ofNat 12)))),p_ 1 40 (m_ 41)]) (.cond (.t 40) (.exit 7) .skip)))))) (.exit 2))) (.seq (.seq (.seq (h_ 8 [p_ 0 42 (f_ 22 7),p_ 1 43 (f_ 1 42),r_ 2 44 (l_ 43),p_ 3 45 (m_ 0),p_ 4 46 (n_ 45),p_ 5 47 (f_ 15 46),r_ 6 48 (l_ 47),p_ 7 49 (.bin 3 2 (.t 44) (.t 48))]) (.cond (.t 49) (g_ 7 [p_ 0 50 (m_ 0),p_ 1 51 (m_ 1),p_ 2 52 (f_ 22 7),r_ 3 53 (.ld true 3 (.t 52)),p_ 4 54 (f_ 29 7),r_ 5 55 (l_ 54),c_ 6 56 46 [.t 50,.t 51,.t 53,.t 55]]) .skip)) (.seq (g_ 1 [p_ 0 8 (.mv (.c .nilS))]) .ret)) (.exit 2)))) (.seq (g_ 2 [p_ 0 57 (m_ 9),p_ 1 58 (.un 0 (.t 57))]) (.cond (.t 58) (.seq (g_ 5 [p_ 0 59 (m_ 0),r_ 1 60 (.ld true 2 (.t 6)),r_ 2 61 (.ld true 31 (.t 7)),c_ 3 62 75 [.t 59,.t 60,.t 61],p_ 4 8 (m_ 62)]) .ret) .skip)))) (.seq (.seq (g_ 5 [p_ 0 63 (m_ 0),c_ 1 64 19 [.t 63],p_ 2 65 (m_ 64),am 3 66 65 true (m_ 9),p_ 4 67 (.pick (.t 65) (.t 66) (.c (.bool false)))]) (.cond (.t 67) (.seq (.reg true 7 (.split 2 4 (.leaf [p_ 0 68 (m_ 0),p_ 1 69 (m_ 0),r_ 3 71 (.ld true 2 (.t 6)),c_ 2 70 76 [.t 69],a_ 3 71 (.ld true 2 (.t 6)),e_ 4 72 (.bsl 52 2 1 [.int 1 (.ofNat 0),.int 2 (.ofNat 0)] [(0,2)] [.t 71]),c_ 5 73 69 [.t 68,.t 70,.t 72],p_ 6 8 (m_ 73)]) (.leaf [p_ 0 68 (m_ 0),p_ 1 69 (m_ 0),r_ 3 71 (.ld true 2 (.t 6)),e_ 4 72 (.bsl 52 2 1 [.int 1 (.ofNat 0),.int 2 (.ofNat 0)] [(0,2)] [.t 71]),c_ 2 70 76 [.t 69],c_ 5 73 69 [.t 68,.t 70,.t 72],p_ 6 8 (m_ 73)]))) .ret) .skip)) (.exit 2)))) (.seq (.seq (g_ 2 [p_ 0 74 (m_ 0),c_ 1 75 19 [.t 74]]) (.cond (.t 75) (.seq (g_ 5 [p_ 0 76 (m_ 0),p_ 1 77 (f_ 25 7),r_ 2 78 (.ld true 2 (.t 77)),c_ 3 79 77 [.t 76,.t 78],p_ 4 8 (m_ 79)]) .ret) .skip)) (.exit 2)))) (.seq (.seq (g_ 2 [p_ 0 80 (m_ 0),c_ 1 81 19 [.t 80]]) (.cond (.t 81) (g_ 4 [p_ 0 82 (m_ 0),p_ 1 83 (f_ 25 7),r_ 2 84 (.ld true 2 (.t 83)),c_ 3 85 39 [.t 82,.t 84]]) .skip)) (.exit 2))))) (.seq (.seq (h_ 14 [p_ 0 86 (m_ 0),c_ 1 87 19 [.t 86],p_ 2 88 (.un 0 (.t 87)),p_ 3 89 (m_ 88),am 4 90 89 false (f_ 3 7),aU 5 91 89 false (l_ 90),am 6 92 89 false (m_ 0),am 7 93 89 false (n_ 92),am 8 94 89 false (f_ 0 93),am 9 95 89 false (f_ 0 94),am 10 96 89 false (f_ 1 95),aU 11 97 89 false (l_ 96),am 12 98 89 false (.bin 3 5 (.t 91) (.t 97)),p_ 13 99 (.pick (.t 89) (.c (.bool true)) (.t 98))]) (.cond (.t 99) (.seq (g_ 1 [p_ 0 8 (.mv (.c .nilS))]) .ret) .skip)) (.seq (g_ 6 [p_ 0 100 (m_ 0),p_ 1 101 (m_ 1),r_ 2 102 (.ld true 2 (.t 6)),r_ 3 103 (.ld true 31 (.t 7)),c_ 4 104 78 [.t 100,.t 101,.t 102,.t 103],p_ 5 8 (m_ 104)]) .ret))))))
theorem iN:aW Tryz.prog 51 lh=true:=by kernel_rfl
structure nR where
 l:List Ke
 com:Int
 c0:Int
 c1:Int
 me:Int
 now:Int
 w:Int
 fr:Int
 c:Int
 h:Value
 v:List Ke
structure Ju where
 l:List Ke
 com:Int
def sj (p:nR) (r:Ju):Prop:=((((p.l.length:Int) - p.fr)<(p.v.length:Int)∧r.l=p.l++p.v.drop ((p.l.length:Int) - p.fr).toNat)∨((p.v.length:Int)≤((p.l.length:Int) - p.fr)∧r.l=p.l))∧r.com=max p.com (min p.c (r.l.length:Int))∧r.l.length≤400
noncomputable def vX (p:nR):IE:=([.ptr 0 0,.sy (.int 0 p.now),.agg [.sy (.int 1 p.w),bj],.agg [cu,aa,aa,bt,.sy (.int 3 p.fr),.sy (.int 3 p.c),aw,aI,aI,aa,aJ,aw,aa,aa,aa,aa,aa,aa,aa,.nilS,aa,.str [],aa,aw,.nilS,aa,aJ,.bool false,.nilS,.sy (.imm p.h 18 Ke p.v ai),.nilS]],(dJ p.l p.com p.c0 p.c1 p.me),10)
noncomputable def Ai (p:nR) (K:KE):Bool:=ah fun r:Ju=>iP (sj p r) (K (.sl 1 0 1 (.ex 1)) (.node (.node (.node (.node .leaf (some (bN)) .leaf) (some (bR 2 7 8 9 (.sy (.int 1 p.me)) r.l.length r.com)) .leaf) (some (.blk false 118 33 [[.sy (.int 1 p.w),bj,ju,aa,aa,bt,.sy (.int 3 (r.l.length:Int)),aw,aw,aI,aI,aa,aJ,aw,aa,aa,aa,aa,aa,aa,aa,.nilS,aa,.str [],aa,aw,.nilS,aa,aJ,.bool false,.nilS,.nilS,.nilS]])) (.node (.node .leaf (some (.map [(.agg bu,.sy (.int 0 p.c0),0),(.agg bK,.sy (.int 0 p.c1),1)] 2)) .leaf) (some (bN)) .leaf)) (some (bS 2 2 3 4 5 6 (.sy (.int 1 p.me)))) (.node (.node (.node .leaf (some (.prow 68 18 Ke r.l ai)) .leaf) (some (bA)) .leaf) (some (bN)) (.node (.node .leaf (some (bN)) .leaf) (some (bV 2 10)) .leaf))) 11) true
def ph (p:nR):Prop:=p.w=0∧Bn p.v∧1≤p.me∧p.me<2∧0≤p.fr∧p.fr≤(p.l.length:Int)∧p.fr+(p.v.length:Int)≤400∧p.l.length≤400∧0≤p.c∧p.c≤400
theorem Ym {p:nR} {K:KE} (hK:Ai p K=true) (r:Ju) (h:sj p r):K (.sl 1 0 1 (.ex 1)) (.node (.node (.node (.node .leaf (some (bN)) .leaf) (some (bR 2 7 8 9 (.sy (.int 1 p.me)) r.l.length r.com)) .leaf) (some (.blk false 118 33 [[.sy (.int 1 p.w),bj,ju,aa,aa,bt,.sy (.int 3 (r.l.length:Int)),aw,aw,aI,aI,aa,aJ,aw,aa,aa,aa,aa,aa,aa,aa,.nilS,aa,.str [],aa,aw,.nilS,aa,aJ,.bool false,.nilS,.nilS,.nilS]])) (.node (.node .leaf (some (.map [(.agg bu,.sy (.int 0 p.c0),0),(.agg bK,.sy (.int 0 p.c1),1)] 2)) .leaf) (some (bN)) .leaf)) (some (bS 2 2 3 4 5 6 (.sy (.int 1 p.me)))) (.node (.node (.node .leaf (some (.prow 68 18 Ke r.l ai)) .leaf) (some (bA)) .leaf) (some (bN)) (.node (.node .leaf (some (bN)) .leaf) (some (bV 2 10)) .leaf))) 11=true:=aA h (au hK r)
theorem YX (p:nR) (K:KE) (hpre:ph p) (hK:Ai p K=true):(aY 1 (bg Ap) bp 600 lh (vX p).1 (vX p).2.1 (vX p).2.2 K)=true:=by
 refine Eq.trans (b:=(let z0:Bool:=(K .nilS (dJ p.l p.com p.c0 p.c1 p.me) 10);iP (p.me<(16:Int)) (ax fun p1:ix=>mP (([.agg [cu,aa,aa,bt,.sy (.int 3 p.fr),.sy (.int 3 p.c),aw,aI,aI,aa,aJ,aw,aa,aa,aa,aa,aa,aa,aa,.nilS,aa,.str [],aa,aw,.nilS,aa,aJ,.bool false,.nilS,.sy (.imm p.h 18 Ke p.v ai),.nilS]],.leaf,0)=nF p1) (mP (fD p1) (iP (p.w<(16:Int)) (iP (p.me<(16:Int)) (iP (p.me=(0:Int)) z0 (iP (p.w=(0:Int)) (mP (aL 0 p.fr) (mP (aL 0 p.c) (bf (([.ptr 0 0,.sy (.int 0 p.fr),.sy (.imm p.h 18 Ke p.v ai),.sy (.int 0 p.c)],(vJ p.l p.com p.c0 p.c1 p.me),4)) yU rI gj fun p2 r1=>mP (aL 3 (r1.l.length:Int)) (K (.sl 1 0 1 (.ex 1)) (.node (.node (.node (.node .leaf (some (bN)) .leaf) (some (bR 2 7 8 9 (.sy (.int 1 p2.me)) r1.l.length r1.com)) .leaf) (some (.blk false 118 33 [[.sy (.int 1 p.w),bj,ju,aa,aa,bt,.sy (.int 3 (r1.l.length:Int)),aw,aw,aI,aI,aa,aJ,aw,aa,aa,aa,aa,aa,aa,aa,.nilS,aa,.str [],aa,aw,.nilS,aa,aJ,.bool false,.nilS,.nilS,.nilS]])) (.node (.node .leaf (some (.map [(.agg bu,.sy (.int 0 p2.c0),0),(.agg bK,.sy (.int 0 p2.c1),1)] 2)) .leaf) (some (bN)) .leaf)) (some (bS 2 2 3 4 5 6 (.sy (.int 1 p.me)))) (.node (.node (.node .leaf (some (.prow 68 18 Ke r1.l ai)) .leaf) (some (bA)) .leaf) (some (bN)) (.node (.node .leaf (some (bN)) .leaf) (some (bV 2 10)) .leaf))) 11)))) z0)) z0) z0))) z0)) (by kernel_rfl) ?_
 dsimp only[ph]at hpre
 obtain⟨u1,u2,u3,u4,u5,u6,u7,u8,u9,u10⟩:=hpre
 refine iI (fun hc1=> ?_) (fun hc1=> ?_)
 refine aP (⟨p.fr,p.c,p.h,p.v⟩:ix) rfl (by(try dsimp only[fD]);first|exact⟨by assumption,by omega,by omega,by omega,by omega,by omega⟩|omega) ?_
 refine iI (fun hc2=> ?_) (fun hc2=> ?_)
 refine iI (fun hc3=> ?_) (fun hc3=> ?_)
 refine iI (fun hc4=> ?_) (fun hc4=> ?_)
 exfalso;omega
 refine iI (fun hc5=> ?_) (fun hc5=> ?_)
 refine aQ (aQ ?_)
 refine aB (⟨p.l,p.com,p.c0,p.c1,p.me,p.fr,p.h,p.v,p.c⟩:qV) rfl (by(try dsimp only[rI]);omega) fun r1 hi6=> ?_
 dsimp only[gj]at hi6
 refine aQ ?_
 exact Ym hK ⟨r1.l,r1.com⟩ (by dsimp only[sj]<;>(first|assumption|(exfalso;omega)))
 exfalso;omega
 exfalso;omega
 exfalso;omega
 exfalso;omega
noncomputable def En:aM:=bn (fun us M=>bC (bC (Nat.beq (ca M 1) 2) (ig (cD M 0 8))) (Nat.beq (iS us 3 0) 3)) (be vX (cm ph Ai)) (fun _ _ _ _=>false)
theorem Oe:aX Tryz.prog 51 1 En:=aD (bi (f:=51) (k:=1) (ay Bq) iN (by rfl) (by rfl) YX) dT
noncomputable def AD:=aZ Ap 1 En 51 [(0,4),(1,20),(2,15),(3,15)]
theorem BE:aE Tryz.prog AD:=az Oe Bq
def OJ:XF:=lh
theorem SB:aW Tryz.prog 51 OJ=true:=iN
structure lJ where
 l:List Ke
 com:Int
 c0:Int
 c1:Int
 c2:Int
 me:Int
 now:Int
 w:Int
 fr:Int
 c:Int
 h:Value
 v:List Ke
structure Jt where
 l:List Ke
 com:Int
def kM (p:lJ) (r:Jt):Prop:=((((p.l.length:Int) - p.fr)<(p.v.length:Int)∧r.l=p.l++p.v.drop ((p.l.length:Int) - p.fr).toNat)∨((p.v.length:Int)≤((p.l.length:Int) - p.fr)∧r.l=p.l))∧r.com=max p.com (min p.c (r.l.length:Int))∧r.l.length≤400
noncomputable def qK (p:lJ):IE:=([.ptr 0 0,.sy (.int 0 p.now),.agg [.sy (.int 1 p.w),bj],.agg [cu,aa,aa,bt,.sy (.int 3 p.fr),.sy (.int 3 p.c),aw,aI,aI,aa,aJ,aw,aa,aa,aa,aa,aa,aa,aa,.nilS,aa,.str [],aa,aw,.nilS,aa,aJ,.bool false,.nilS,.sy (.imm p.h 18 Ke p.v ai),.nilS]],(dm p.l p.com p.c0 p.c1 p.c2 p.me),10)
noncomputable def Ah (p:lJ) (K:KE):Bool:=ah fun r:Jt=>iP (kM p r) (K (.sl 1 0 1 (.ex 1)) (.node (.node (.node (.node .leaf (some (bE)) .leaf) (some (bR 3 7 8 9 (.sy (.int 1 p.me)) r.l.length r.com)) .leaf) (some (.blk false 118 33 [[.sy (.int 1 p.w),bj,ju,aa,aa,bt,.sy (.int 3 (r.l.length:Int)),aw,aw,aI,aI,aa,aJ,aw,aa,aa,aa,aa,aa,aa,aa,.nilS,aa,.str [],aa,aw,.nilS,aa,aJ,.bool false,.nilS,.nilS,.nilS]])) (.node (.node .leaf (some (.map [(.agg bu,.sy (.int 0 p.c0),0),(.agg bK,.sy (.int 0 p.c1),1),(.agg cQ,.sy (.int 0 p.c2),2)] 3)) .leaf) (some (bE)) .leaf)) (some (bS 3 2 3 4 5 6 (.sy (.int 1 p.me)))) (.node (.node (.node .leaf (some (.prow 68 18 Ke r.l ai)) .leaf) (some (bA)) .leaf) (some (bE)) (.node (.node .leaf (some (bE)) .leaf) (some (bV 3 10)) .leaf))) 11) true
def jn (p:lJ):Prop:=p.w=0∧Bn p.v∧1≤p.me∧p.me<3∧0≤p.fr∧p.fr≤(p.l.length:Int)∧p.fr+(p.v.length:Int)≤400∧p.l.length≤400∧0≤p.c∧p.c≤400
theorem Yl {p:lJ} {K:KE} (hK:Ah p K=true) (r:Jt) (h:kM p r):K (.sl 1 0 1 (.ex 1)) (.node (.node (.node (.node .leaf (some (bE)) .leaf) (some (bR 3 7 8 9 (.sy (.int 1 p.me)) r.l.length r.com)) .leaf) (some (.blk false 118 33 [[.sy (.int 1 p.w),bj,ju,aa,aa,bt,.sy (.int 3 (r.l.length:Int)),aw,aw,aI,aI,aa,aJ,aw,aa,aa,aa,aa,aa,aa,aa,.nilS,aa,.str [],aa,aw,.nilS,aa,aJ,.bool false,.nilS,.nilS,.nilS]])) (.node (.node .leaf (some (.map [(.agg bu,.sy (.int 0 p.c0),0),(.agg bK,.sy (.int 0 p.c1),1),(.agg cQ,.sy (.int 0 p.c2),2)] 3)) .leaf) (some (bE)) .leaf)) (some (bS 3 2 3 4 5 6 (.sy (.int 1 p.me)))) (.node (.node (.node .leaf (some (.prow 68 18 Ke r.l ai)) .leaf) (some (bA)) .leaf) (some (bE)) (.node (.node .leaf (some (bE)) .leaf) (some (bV 3 10)) .leaf))) 11=true:=aA h (au hK r)
theorem YW (p:lJ) (K:KE) (hpre:jn p) (hK:Ah p K=true):(aY 1 (bg AD) bp 600 OJ (qK p).1 (qK p).2.1 (qK p).2.2 K)=true:=by
 refine Eq.trans (b:=(let z0:Bool:=(K .nilS (dm p.l p.com p.c0 p.c1 p.c2 p.me) 10);iP (p.me<(16:Int)) (ax fun p1:ix=>mP (([.agg [cu,aa,aa,bt,.sy (.int 3 p.fr),.sy (.int 3 p.c),aw,aI,aI,aa,aJ,aw,aa,aa,aa,aa,aa,aa,aa,.nilS,aa,.str [],aa,aw,.nilS,aa,aJ,.bool false,.nilS,.sy (.imm p.h 18 Ke p.v ai),.nilS]],.leaf,0)=nF p1) (mP (fD p1) (iP (p.w<(16:Int)) (iP (p.me<(16:Int)) (iP (p.me=(0:Int)) z0 (iP (p.w=(0:Int)) (mP (aL 0 p.fr) (mP (aL 0 p.c) (bf (([.ptr 0 0,.sy (.int 0 p.fr),.sy (.imm p.h 18 Ke p.v ai),.sy (.int 0 p.c)],(vI p.l p.com p.c0 p.c1 p.c2 p.me),4)) yT rH gi fun p2 r1=>mP (aL 3 (r1.l.length:Int)) (K (.sl 1 0 1 (.ex 1)) (.node (.node (.node (.node .leaf (some (bE)) .leaf) (some (bR 3 7 8 9 (.sy (.int 1 p2.me)) r1.l.length r1.com)) .leaf) (some (.blk false 118 33 [[.sy (.int 1 p.w),bj,ju,aa,aa,bt,.sy (.int 3 (r1.l.length:Int)),aw,aw,aI,aI,aa,aJ,aw,aa,aa,aa,aa,aa,aa,aa,.nilS,aa,.str [],aa,aw,.nilS,aa,aJ,.bool false,.nilS,.nilS,.nilS]])) (.node (.node .leaf (some (.map [(.agg bu,.sy (.int 0 p2.c0),0),(.agg bK,.sy (.int 0 p2.c1),1),(.agg cQ,.sy (.int 0 p2.c2),2)] 3)) .leaf) (some (bE)) .leaf)) (some (bS 3 2 3 4 5 6 (.sy (.int 1 p.me)))) (.node (.node (.node .leaf (some (.prow 68 18 Ke r1.l ai)) .leaf) (some (bA)) .leaf) (some (bE)) (.node (.node .leaf (some (bE)) .leaf) (some (bV 3 10)) .leaf))) 11)))) z0)) z0) z0))) z0)) (by kernel_rfl) ?_
 dsimp only[jn]at hpre
 obtain⟨u1,u2,u3,u4,u5,u6,u7,u8,u9,u10⟩:=hpre
 refine iI (fun hc1=> ?_) (fun hc1=> ?_)
 refine aP (⟨p.fr,p.c,p.h,p.v⟩:ix) rfl (by(try dsimp only[fD]);first|exact⟨by assumption,by omega,by omega,by omega,by omega,by omega⟩|omega) ?_
 refine iI (fun hc2=> ?_) (fun hc2=> ?_)
 refine iI (fun hc3=> ?_) (fun hc3=> ?_)
 refine iI (fun hc4=> ?_) (fun hc4=> ?_)
 exfalso;omega
 refine iI (fun hc5=> ?_) (fun hc5=> ?_)
 refine aQ (aQ ?_)
 refine aB (⟨p.l,p.com,p.c0,p.c1,p.c2,p.me,p.fr,p.h,p.v,p.c⟩:qU) rfl (by(try dsimp only[rH]);omega) fun r1 hi6=> ?_
 dsimp only[gi]at hi6
 refine aQ ?_
 exact Yl hK ⟨r1.l,r1.com⟩ (by dsimp only[kM]<;>(first|assumption|(exfalso;omega)))
 exfalso;omega
 exfalso;omega
 exfalso;omega
 exfalso;omega
noncomputable def Em:aM:=bn (fun us M=>bC (bC (Nat.beq (ca M 1) 3) (ig (cD M 0 8))) (Nat.beq (iS us 3 0) 3)) (be qK (cm jn Ah)) En
theorem Od:aX Tryz.prog 51 1 Em:=aD (bi (f:=51) (k:=1) (ay BE) SB (by rfl) (by rfl) YW) Oe
noncomputable def AC:=aZ AD 1 Em 51 [(0,4),(1,20),(2,15),(3,15)]
theorem BD:aE Tryz.prog AC:=az Od BE
def OI:XF:=lh
theorem SA:aW Tryz.prog 51 OI=true:=iN
structure jC where
 l:List Ke
 com:Int
 c0:Int
 c1:Int
 c2:Int
 c3:Int
 me:Int
 now:Int
 w:Int
 fr:Int
 c:Int
 h:Value
 v:List Ke
structure Js where
 l:List Ke
 com:Int
def gX (p:jC) (r:Js):Prop:=((((p.l.length:Int) - p.fr)<(p.v.length:Int)∧r.l=p.l++p.v.drop ((p.l.length:Int) - p.fr).toNat)∨((p.v.length:Int)≤((p.l.length:Int) - p.fr)∧r.l=p.l))∧r.com=max p.com (min p.c (r.l.length:Int))∧r.l.length≤400
noncomputable def nG (p:jC):IE:=([.ptr 0 0,.sy (.int 0 p.now),.agg [.sy (.int 1 p.w),bj],.agg [cu,aa,aa,bt,.sy (.int 3 p.fr),.sy (.int 3 p.c),aw,aI,aI,aa,aJ,aw,aa,aa,aa,aa,aa,aa,aa,.nilS,aa,.str [],aa,aw,.nilS,aa,aJ,.bool false,.nilS,.sy (.imm p.h 18 Ke p.v ai),.nilS]],(cV p.l p.com p.c0 p.c1 p.c2 p.c3 p.me),10)
noncomputable def Ag (p:jC) (K:KE):Bool:=ah fun r:Js=>iP (gX p r) (K (.sl 1 0 1 (.ex 1)) (.node (.node (.node (.node .leaf (some (bw)) .leaf) (some (bR 4 7 8 9 (.sy (.int 1 p.me)) r.l.length r.com)) .leaf) (some (.blk false 118 33 [[.sy (.int 1 p.w),bj,ju,aa,aa,bt,.sy (.int 3 (r.l.length:Int)),aw,aw,aI,aI,aa,aJ,aw,aa,aa,aa,aa,aa,aa,aa,.nilS,aa,.str [],aa,aw,.nilS,aa,aJ,.bool false,.nilS,.nilS,.nilS]])) (.node (.node .leaf (some (.map [(.agg bu,.sy (.int 0 p.c0),0),(.agg bK,.sy (.int 0 p.c1),1),(.agg cQ,.sy (.int 0 p.c2),2),(.agg fx,.sy (.int 0 p.c3),3)] 4)) .leaf) (some (bw)) .leaf)) (some (bS 4 2 3 4 5 6 (.sy (.int 1 p.me)))) (.node (.node (.node .leaf (some (.prow 68 18 Ke r.l ai)) .leaf) (some (bA)) .leaf) (some (bw)) (.node (.node .leaf (some (bw)) .leaf) (some (bV 4 10)) .leaf))) 11) true
def fE (p:jC):Prop:=p.w=0∧Bn p.v∧1≤p.me∧p.me<4∧0≤p.fr∧p.fr≤(p.l.length:Int)∧p.fr+(p.v.length:Int)≤400∧p.l.length≤400∧0≤p.c∧p.c≤400
theorem Yk {p:jC} {K:KE} (hK:Ag p K=true) (r:Js) (h:gX p r):K (.sl 1 0 1 (.ex 1)) (.node (.node (.node (.node .leaf (some (bw)) .leaf) (some (bR 4 7 8 9 (.sy (.int 1 p.me)) r.l.length r.com)) .leaf) (some (.blk false 118 33 [[.sy (.int 1 p.w),bj,ju,aa,aa,bt,.sy (.int 3 (r.l.length:Int)),aw,aw,aI,aI,aa,aJ,aw,aa,aa,aa,aa,aa,aa,aa,.nilS,aa,.str [],aa,aw,.nilS,aa,aJ,.bool false,.nilS,.nilS,.nilS]])) (.node (.node .leaf (some (.map [(.agg bu,.sy (.int 0 p.c0),0),(.agg bK,.sy (.int 0 p.c1),1),(.agg cQ,.sy (.int 0 p.c2),2),(.agg fx,.sy (.int 0 p.c3),3)] 4)) .leaf) (some (bw)) .leaf)) (some (bS 4 2 3 4 5 6 (.sy (.int 1 p.me)))) (.node (.node (.node .leaf (some (.prow 68 18 Ke r.l ai)) .leaf) (some (bA)) .leaf) (some (bw)) (.node (.node .leaf (some (bw)) .leaf) (some (bV 4 10)) .leaf))) 11=true:=aA h (au hK r)
theorem YV (p:jC) (K:KE) (hpre:fE p) (hK:Ag p K=true):(aY 1 (bg AC) bp 600 OI (nG p).1 (nG p).2.1 (nG p).2.2 K)=true:=by
 refine Eq.trans (b:=(let z0:Bool:=(K .nilS (cV p.l p.com p.c0 p.c1 p.c2 p.c3 p.me) 10);iP (p.me<(16:Int)) (ax fun p1:ix=>mP (([.agg [cu,aa,aa,bt,.sy (.int 3 p.fr),.sy (.int 3 p.c),aw,aI,aI,aa,aJ,aw,aa,aa,aa,aa,aa,aa,aa,.nilS,aa,.str [],aa,aw,.nilS,aa,aJ,.bool false,.nilS,.sy (.imm p.h 18 Ke p.v ai),.nilS]],.leaf,0)=nF p1) (mP (fD p1) (iP (p.w<(16:Int)) (iP (p.me<(16:Int)) (iP (p.me=(0:Int)) z0 (iP (p.w=(0:Int)) (mP (aL 0 p.fr) (mP (aL 0 p.c) (bf (([.ptr 0 0,.sy (.int 0 p.fr),.sy (.imm p.h 18 Ke p.v ai),.sy (.int 0 p.c)],(vH p.l p.com p.c0 p.c1 p.c2 p.c3 p.me),4)) yS rG gh fun p2 r1=>mP (aL 3 (r1.l.length:Int)) (K (.sl 1 0 1 (.ex 1)) (.node (.node (.node (.node .leaf (some (bw)) .leaf) (some (bR 4 7 8 9 (.sy (.int 1 p2.me)) r1.l.length r1.com)) .leaf) (some (.blk false 118 33 [[.sy (.int 1 p.w),bj,ju,aa,aa,bt,.sy (.int 3 (r1.l.length:Int)),aw,aw,aI,aI,aa,aJ,aw,aa,aa,aa,aa,aa,aa,aa,.nilS,aa,.str [],aa,aw,.nilS,aa,aJ,.bool false,.nilS,.nilS,.nilS]])) (.node (.node .leaf (some (.map [(.agg bu,.sy (.int 0 p2.c0),0),(.agg bK,.sy (.int 0 p2.c1),1),(.agg cQ,.sy (.int 0 p2.c2),2),(.agg fx,.sy (.int 0 p2.c3),3)] 4)) .leaf) (some (bw)) .leaf)) (some (bS 4 2 3 4 5 6 (.sy (.int 1 p.me)))) (.node (.node (.node .leaf (some (.prow 68 18 Ke r1.l ai)) .leaf) (some (bA)) .leaf) (some (bw)) (.node (.node .leaf (some (bw)) .leaf) (some (bV 4 10)) .leaf))) 11)))) z0)) z0) z0))) z0)) (by kernel_rfl) ?_
 dsimp only[fE]at hpre
 obtain⟨u1,u2,u3,u4,u5,u6,u7,u8,u9,u10⟩:=hpre
 refine iI (fun hc1=> ?_) (fun hc1=> ?_)
 refine aP (⟨p.fr,p.c,p.h,p.v⟩:ix) rfl (by(try dsimp only[fD]);first|exact⟨by assumption,by omega,by omega,by omega,by omega,by omega⟩|omega) ?_
 refine iI (fun hc2=> ?_) (fun hc2=> ?_)
 refine iI (fun hc3=> ?_) (fun hc3=> ?_)
 refine iI (fun hc4=> ?_) (fun hc4=> ?_)
 exfalso;omega
 refine iI (fun hc5=> ?_) (fun hc5=> ?_)
 refine aQ (aQ ?_)
 refine aB (⟨p.l,p.com,p.c0,p.c1,p.c2,p.c3,p.me,p.fr,p.h,p.v,p.c⟩:qT) rfl (by(try dsimp only[rG]);omega) fun r1 hi6=> ?_
 dsimp only[gh]at hi6
 refine aQ ?_
 exact Yk hK ⟨r1.l,r1.com⟩ (by dsimp only[gX]<;>(first|assumption|(exfalso;omega)))
 exfalso;omega
 exfalso;omega
 exfalso;omega
 exfalso;omega
noncomputable def El:aM:=bn (fun us M=>bC (bC (Nat.beq (ca M 1) 4) (ig (cD M 0 8))) (Nat.beq (iS us 3 0) 3)) (be nG (cm fE Ag)) Em
theorem Oc:aX Tryz.prog 51 1 El:=aD (bi (f:=51) (k:=1) (ay BD) SA (by rfl) (by rfl) YV) Od
noncomputable def AB:=aZ AC 1 El 51 [(0,4),(1,20),(2,15),(3,15)]
theorem BC:aE Tryz.prog AB:=az Oc BD
def OH:XF:=lh
theorem Sz:aW Tryz.prog 51 OH=true:=iN
structure nQ where
 l:List Ke
 com:Int
 c0:Int
 c1:Int
 now:Int
 w:Int
 fr:Int
 c:Int
 h:Value
 v:List Ke
structure Jr where
 com:Int
 c0:Int
 c1:Int
def nX (p:nQ) (r:Jr):Prop:=∃j:Nat,1≤j∧j<2∧p.w=(j:Int)∧[r.c0,r.c1]=([p.c0,p.c1].set j (max ([p.c0,p.c1].getD j 0) p.fr)).set 0 (p.l.length:Int)∧comR 2 p.com r.com [r.c0,r.c1]
noncomputable def vW (p:nQ):IE:=([.ptr 0 0,.sy (.int 0 p.now),.agg [.sy (.int 1 p.w),bj],.agg [ju,aa,aa,bt,.sy (.int 3 p.fr),.sy (.int 3 p.c),aw,aI,aI,aa,aJ,aw,aa,aa,aa,aa,aa,aa,aa,.nilS,aa,.str [],aa,aw,.nilS,aa,aJ,.bool false,.nilS,.sy (.imm p.h 18 Ke p.v ai),.nilS]],(dB p.l p.com p.c0 p.c1),10)
noncomputable def Af (p:nQ) (K:KE):Bool:=ah fun r:Jr=>iP (nX p r) (K .nilS (dB p.l r.com r.c0 r.c1) 10) true
def pg (p:nQ):Prop:=p.v.length=0∧p.c=0∧1≤p.w∧p.w<2∧0≤p.fr∧p.fr≤(p.l.length:Int)∧p.l.length≤400
theorem KS {p:nQ} {K:KE} (hK:Af p K=true) (r:Jr) (h:nX p r):K .nilS (dB p.l r.com r.c0 r.c1) 10=true:=aA h (au hK r)
theorem YU (p:nQ) (K:KE) (hpre:pg p) (hK:Af p K=true):(aY 1 (bg AB) bp 600 OH (vW p).1 (vW p).2.1 (vW p).2.2 K)=true:=by
 refine Eq.trans (b:=(ax fun p1:iw=>mP (([.agg [ju,aa,aa,bt,.sy (.int 3 p.fr),.sy (.int 3 p.c),aw,aI,aI,aa,aJ,aw,aa,aa,aa,aa,aa,aa,aa,.nilS,aa,.str [],aa,aw,.nilS,aa,aJ,.bool false,.nilS,.sy (.imm p.h 18 Ke p.v ai),.nilS]],.leaf,0)=nE p1) (mP (fC p1) (iP (p.w<(16:Int)) (mP (aL 0 p.fr) (bf (([.ptr 0 0,.agg [.sy (.int 1 p.w),bj],.sy (.int 0 p.fr)],(ir p.l p.com p.c0 p.c1),4)) EK uA ql fun p2 r1=>K .nilS (dB p2.l r1.com r1.c0 r1.c1) 10)) (K .nilS (dB p.l p.com p.c0 p.c1) 10))))) (by kernel_rfl) ?_
 dsimp only[pg]at hpre
 obtain⟨u1,u2,u3,u4,u5,u6,u7⟩:=hpre
 refine aP (⟨p.fr,p.c,p.h,p.v⟩:iw) rfl (by(try dsimp only[fC]);first|exact⟨by assumption,by omega,by omega,by omega,by omega,by omega⟩|omega) ?_
 refine iI (fun hc1=> ?_) (fun hc1=> ?_)
 refine aQ ?_
 refine aB (⟨p.l,p.com,p.c0,p.c1,p.w,p.fr⟩:wj) rfl (by(try dsimp only[uA]);omega) fun r1 hi2=> ?_
 dsimp only[ql]at hi2
 exact KS hK ⟨r1.com,r1.c0,r1.c1⟩ (by dsimp only[nX]<;>(first|assumption|(exfalso;omega)))
 exact KS hK ⟨p.com,p.c0,p.c1⟩ (by dsimp only[nX]<;>(first|assumption|(exfalso;omega)))
noncomputable def Ek:aM:=bn (fun us M=>bC (bC (Nat.beq (ca M 1) 2) (cD M 0 8)) (Nat.beq (iS us 3 0) 4)) (be vW (cm pg Af)) El
theorem Ob:aX Tryz.prog 51 1 Ek:=aD (bi (f:=51) (k:=1) (ay BC) Sz (by rfl) (by rfl) YU) Oc
noncomputable def AA:=aZ AB 1 Ek 51 [(0,4),(1,20),(2,15),(3,15)]
theorem BB:aE Tryz.prog AA:=az Ob BC
def OG:XF:=lh
theorem Sx:aW Tryz.prog 51 OG=true:=iN
structure nP where
 l:List Ke
 com:Int
 c0:Int
 c1:Int
 c2:Int
 now:Int
 w:Int
 fr:Int
 c:Int
 h:Value
 v:List Ke
structure Jq where
 com:Int
 c0:Int
 c1:Int
 c2:Int
def nW (p:nP) (r:Jq):Prop:=∃j:Nat,1≤j∧j<3∧p.w=(j:Int)∧[r.c0,r.c1,r.c2]=([p.c0,p.c1,p.c2].set j (max ([p.c0,p.c1,p.c2].getD j 0) p.fr)).set 0 (p.l.length:Int)∧comR 2 p.com r.com [r.c0,r.c1,r.c2]
noncomputable def vV (p:nP):IE:=([.ptr 0 0,.sy (.int 0 p.now),.agg [.sy (.int 1 p.w),bj],.agg [ju,aa,aa,bt,.sy (.int 3 p.fr),.sy (.int 3 p.c),aw,aI,aI,aa,aJ,aw,aa,aa,aa,aa,aa,aa,aa,.nilS,aa,.str [],aa,aw,.nilS,aa,aJ,.bool false,.nilS,.sy (.imm p.h 18 Ke p.v ai),.nilS]],(dA p.l p.com p.c0 p.c1 p.c2),10)
noncomputable def Ae (p:nP) (K:KE):Bool:=ah fun r:Jq=>iP (nW p r) (K .nilS (dA p.l r.com r.c0 r.c1 r.c2) 10) true
def pf (p:nP):Prop:=p.v.length=0∧p.c=0∧1≤p.w∧p.w<3∧0≤p.fr∧p.fr≤(p.l.length:Int)∧p.l.length≤400
theorem KR {p:nP} {K:KE} (hK:Ae p K=true) (r:Jq) (h:nW p r):K .nilS (dA p.l r.com r.c0 r.c1 r.c2) 10=true:=aA h (au hK r)
theorem YT (p:nP) (K:KE) (hpre:pf p) (hK:Ae p K=true):(aY 1 (bg AA) bp 600 OG (vV p).1 (vV p).2.1 (vV p).2.2 K)=true:=by
 refine Eq.trans (b:=(ax fun p1:iw=>mP (([.agg [ju,aa,aa,bt,.sy (.int 3 p.fr),.sy (.int 3 p.c),aw,aI,aI,aa,aJ,aw,aa,aa,aa,aa,aa,aa,aa,.nilS,aa,.str [],aa,aw,.nilS,aa,aJ,.bool false,.nilS,.sy (.imm p.h 18 Ke p.v ai),.nilS]],.leaf,0)=nE p1) (mP (fC p1) (iP (p.w<(16:Int)) (mP (aL 0 p.fr) (bf (([.ptr 0 0,.agg [.sy (.int 1 p.w),bj],.sy (.int 0 p.fr)],(gG p.l p.com p.c0 p.c1 p.c2),4)) EJ uz lT fun p2 r1=>K .nilS (dA p2.l r1.com r1.c0 r1.c1 r1.c2) 10)) (K .nilS (dA p.l p.com p.c0 p.c1 p.c2) 10))))) (by kernel_rfl) ?_
 dsimp only[pf]at hpre
 obtain⟨u1,u2,u3,u4,u5,u6,u7⟩:=hpre
 refine aP (⟨p.fr,p.c,p.h,p.v⟩:iw) rfl (by(try dsimp only[fC]);first|exact⟨by assumption,by omega,by omega,by omega,by omega,by omega⟩|omega) ?_
 refine iI (fun hc1=> ?_) (fun hc1=> ?_)
 refine aQ ?_
 refine aB (⟨p.l,p.com,p.c0,p.c1,p.c2,p.w,p.fr⟩:wi) rfl (by(try dsimp only[uz]);omega) fun r1 hi2=> ?_
 dsimp only[lT]at hi2
 exact KR hK ⟨r1.com,r1.c0,r1.c1,r1.c2⟩ (by dsimp only[nW]<;>(first|assumption|(exfalso;omega)))
 exact KR hK ⟨p.com,p.c0,p.c1,p.c2⟩ (by dsimp only[nW]<;>(first|assumption|(exfalso;omega)))
noncomputable def Ej:aM:=bn (fun us M=>bC (bC (Nat.beq (ca M 1) 3) (cD M 0 8)) (Nat.beq (iS us 3 0) 4)) (be vV (cm pf Ae)) Ek
theorem Oa:aX Tryz.prog 51 1 Ej:=aD (bi (f:=51) (k:=1) (ay BB) Sx (by rfl) (by rfl) YT) Ob
noncomputable def Az:=aZ AA 1 Ej 51 [(0,4),(1,20),(2,15),(3,15)]
theorem BA:aE Tryz.prog Az:=az Oa BB
def OF:XF:=lh
theorem Sw:aW Tryz.prog 51 OF=true:=iN
structure nO where
 l:List Ke
 com:Int
 c0:Int
 c1:Int
 c2:Int
 c3:Int
 now:Int
 w:Int
 fr:Int
 c:Int
 h:Value
 v:List Ke
structure Jp where
 com:Int
 c0:Int
 c1:Int
 c2:Int
 c3:Int
def nV (p:nO) (r:Jp):Prop:=∃j:Nat,1≤j∧j<4∧p.w=(j:Int)∧[r.c0,r.c1,r.c2,r.c3]=([p.c0,p.c1,p.c2,p.c3].set j (max ([p.c0,p.c1,p.c2,p.c3].getD j 0) p.fr)).set 0 (p.l.length:Int)∧comR 3 p.com r.com [r.c0,r.c1,r.c2,r.c3]
noncomputable def vU (p:nO):IE:=([.ptr 0 0,.sy (.int 0 p.now),.agg [.sy (.int 1 p.w),bj],.agg [ju,aa,aa,bt,.sy (.int 3 p.fr),.sy (.int 3 p.c),aw,aI,aI,aa,aJ,aw,aa,aa,aa,aa,aa,aa,aa,.nilS,aa,.str [],aa,aw,.nilS,aa,aJ,.bool false,.nilS,.sy (.imm p.h 18 Ke p.v ai),.nilS]],(dz p.l p.com p.c0 p.c1 p.c2 p.c3),10)
noncomputable def Ad (p:nO) (K:KE):Bool:=ah fun r:Jp=>iP (nV p r) (K .nilS (dz p.l r.com r.c0 r.c1 r.c2 r.c3) 10) true
def pe (p:nO):Prop:=p.v.length=0∧p.c=0∧1≤p.w∧p.w<4∧0≤p.fr∧p.fr≤(p.l.length:Int)∧p.l.length≤400
theorem KQ {p:nO} {K:KE} (hK:Ad p K=true) (r:Jp) (h:nV p r):K .nilS (dz p.l r.com r.c0 r.c1 r.c2 r.c3) 10=true:=aA h (au hK r)
theorem YS (p:nO) (K:KE) (hpre:pe p) (hK:Ad p K=true):(aY 1 (bg Az) bp 600 OF (vU p).1 (vU p).2.1 (vU p).2.2 K)=true:=by
 refine Eq.trans (b:=(ax fun p1:iw=>mP (([.agg [ju,aa,aa,bt,.sy (.int 3 p.fr),.sy (.int 3 p.c),aw,aI,aI,aa,aJ,aw,aa,aa,aa,aa,aa,aa,aa,.nilS,aa,.str [],aa,aw,.nilS,aa,aJ,.bool false,.nilS,.sy (.imm p.h 18 Ke p.v ai),.nilS]],.leaf,0)=nE p1) (mP (fC p1) (iP (p.w<(16:Int)) (mP (aL 0 p.fr) (bf (([.ptr 0 0,.agg [.sy (.int 1 p.w),bj],.sy (.int 0 p.fr)],(fH p.l p.com p.c0 p.c1 p.c2 p.c3),4)) EI uy iJ fun p2 r1=>K .nilS (dz p2.l r1.com r1.c0 r1.c1 r1.c2 r1.c3) 10)) (K .nilS (dz p.l p.com p.c0 p.c1 p.c2 p.c3) 10))))) (by kernel_rfl) ?_
 dsimp only[pe]at hpre
 obtain⟨u1,u2,u3,u4,u5,u6,u7⟩:=hpre
 refine aP (⟨p.fr,p.c,p.h,p.v⟩:iw) rfl (by(try dsimp only[fC]);first|exact⟨by assumption,by omega,by omega,by omega,by omega,by omega⟩|omega) ?_
 refine iI (fun hc1=> ?_) (fun hc1=> ?_)
 refine aQ ?_
 refine aB (⟨p.l,p.com,p.c0,p.c1,p.c2,p.c3,p.w,p.fr⟩:wh) rfl (by(try dsimp only[uy]);omega) fun r1 hi2=> ?_
 dsimp only[iJ]at hi2
 exact KQ hK ⟨r1.com,r1.c0,r1.c1,r1.c2,r1.c3⟩ (by dsimp only[nV]<;>(first|assumption|(exfalso;omega)))
 exact KQ hK ⟨p.com,p.c0,p.c1,p.c2,p.c3⟩ (by dsimp only[nV]<;>(first|assumption|(exfalso;omega)))
noncomputable def OP:aM:=bn (fun us M=>bC (bC (Nat.beq (ca M 1) 4) (cD M 0 8)) (Nat.beq (iS us 3 0) 4)) (be vU (cm pe Ad)) Ej
theorem Zw:aX Tryz.prog 51 1 OP:=aD (bi (f:=51) (k:=1) (ay BA) Sw (by rfl) (by rfl) YS) Oa
noncomputable def Ay:=aZ Az 1 OP 51 [(0,4),(1,20),(2,15),(3,15)]
theorem Bz:aE Tryz.prog Ay:=az Zw BA
end Go.Proofs.Tryz
namespace Go.Proofs.Tryz
open Go Go.RowKit Go.Sy
open Go.Eng hiding ah
set_option linter.unusedVariables false
structure Fl where
 fr:Int
 to:Int
 k:Int
 n:Int
 c:Int
 h:Value
 l:List Ke
def cw (x:Fl):List PL:=[.sint 0 x.fr,.sint 0 x.to,.sint 1 x.k,.int 1 (.ofNat 0),.int 1 (.ofNat 0),.int 3 (.ofNat 1),.sint 3 x.n,.sint 3 x.c,.int 3 (.ofNat 0),.int 4 (.ofNat 0),.int 4 (.ofNat 0),.int 1 (.ofNat 0),.int 2 (.ofNat 0),.int 3 (.ofNat 0),.int 1 (.ofNat 0),.int 1 (.ofNat 0),.int 1 (.ofNat 0),.int 1 (.ofNat 0),.int 1 (.ofNat 0),.int 1 (.ofNat 0),.int 1 (.ofNat 0),.nilS,.int 1 (.ofNat 0),.str [],.int 1 (.ofNat 0),.int 3 (.ofNat 0),.nilS,.int 1 (.ofNat 0),.int 2 (.ofNat 0),.bool false,.nilS,.imm x.h 18 Ke x.l ai,.nilS]
structure Rl where
 l:List Ke
 com:Int
structure MsgOk (hd:Rl) (tl:List Rl) (x:Fl):Prop where
 kind:x.k=3∨x.k=4
 app:x.k=3→x.fr=0∧∃(j:Nat) (r:Rl),x.to=(j:Int)+1∧tl[j]?=some r∧0≤x.n∧x.n≤(r.l.length:Int)∧x.n+(x.l.length:Int)≤(hd.l.length:Int)∧x.l=(hd.l.drop x.n.toNat).take x.l.length∧0≤x.c∧x.c≤(hd.l.length:Int)
 ack:x.k=4→x.to=0∧x.l=[]∧x.c=0∧∃(j:Nat) (r:Rl),x.fr=(j:Int)+1∧tl[j]?=some r∧0≤x.n∧x.n≤(r.l.length:Int)
structure FInv (hd:Rl) (tl:List Rl) (cs:List Int) (fly:List Fl):Prop where
 clen:cs.length=tl.length+1
 ks:Bn hd.l
 short:hd.l.length≤400
 few:fly.length≤400
 com0:0≤hd.com
 coml:hd.com≤(hd.l.length:Int)
 c0:cs[0]?=some (hd.l.length:Int)
 each:∀(j:Nat) (r:Rl) (c:Int),tl[j]?=some r→cs[j+1]?=some c→0≤c∧c≤(r.l.length:Int)∧r.l=hd.l.take r.l.length∧r.l.length≤hd.l.length∧0≤r.com∧r.com≤(r.l.length:Int)
 set:∀u:Int,(tl.length+1) / 2+1≤(cs.filter fun x=>decide (u≤x)).length→u≤hd.com
 msgs:∀x,x∈fly→MsgOk hd tl x
def fq (fly:List Fl):List Fl→List Fl
 |[]=>fly
 |o::os=>if fly.length<400 then fq (fly++[o]) os else fly
theorem jD {fly:List Fl}:fly=fq fly []:=rfl
theorem iD {L L1:List Fl} {a d y:Nat} {o:Fl} {os fly':List Fl} (h:L.length - a<400) (e:d≤L1.length∧L1.length≤y∧L1.drop d=L.drop a++[o]) (k:fly'=fq (L1.drop d) os):fly'=fq (L.drop a) (o::os):=by
 rw[k,fq,if_pos (by rw[akG];exact h),e.2.2]
theorem jE {L L1:List Fl} {a d:Nat} {o:Fl} {r:List Fl} (e:d≤L1.length∧L1.length≤L.length+[o].length∧L1.drop d=r):d≤L1.length∧L1.length≤L.length+1:=⟨e.1,e.2.1⟩
theorem lL {L:List Fl} {a:Nat} {o:Fl} {os:List Fl} (h:¬L.length - a<400):L.drop a=fq (L.drop a) (o::os):=by
 rw[fq,if_neg (by rw[akG];exact h)]
def TL (L:List Fl) (a:Nat) (os:List Fl) (L':List Fl) (a':Nat):Prop:=L'.drop a'=fq (L.drop a) os∧a'≤L'.length∧L'.length≤L.length+os.length
theorem mJ {L:List Fl} {a:Nat} (h:a≤L.length):TL L a [] L a:=⟨rfl,h,akz _⟩
theorem mH {L L1 L':List Fl} {a d a':Nat} {o:Fl} {os:List Fl} (h:L.length - a<400) (e:d≤L1.length∧L1.length≤L.length+[o].length∧L1.drop d=L.drop a++[o]) (k:TL L1 d os L' a'):TL L a (o::os) L' a':=
 ⟨iD h e k.1,k.2.1,by have:=k.2.2;have:=e.2.1;simp only[akl,akn]at*;omega⟩
theorem rD {L:List Fl} {a:Nat} {o:Fl} {os:List Fl} (h:¬L.length - a<400) (ha:a≤L.length):TL L a (o::os) L a:=⟨lL h,ha,by omega⟩
def Yz (l:List Ke) (com:Int) (x:Fl) (l':List Ke) (com':Int):Prop:=(((l.length:Int) - x.n<(x.l.length:Int)∧l'=l++x.l.drop ((l.length:Int) - x.n).toNat)∨((x.l.length:Int)≤(l.length:Int) - x.n∧l'=l))∧com'=max com (min x.c (l'.length:Int))∧l'.length≤400
inductive Come (hd:Rl) (tl:List Rl) (cs:List Int) (fly:List Fl) (x:Fl):Rl→List Rl→List Int→List Fl→Prop
 |app (j:Nat) (r:Rl) (l:List Ke) (com:Int) (h:Value) (fly':List Fl) (hk:x.k=3) (ht:x.to=(j:Int)+1) (hr:tl[j]?=some r) (hT:Yz r.l r.com x l com) (hf:fly'=fq fly [⟨(j:Int)+1,x.fr,4,(l.length:Int),0,h,[]⟩]):Come hd tl cs fly x hd (tl.set j ⟨l,com⟩) cs fly'
 |ack (j:Nat) (com:Int) (cs':List Int) (maj:Nat) (hk:x.k=4) (h1:1≤j) (h2:j<tl.length+1) (hw:x.fr=(j:Int)) (hc:cs'=(cs.set j (max (cs.getD j 0) x.n)).set 0 (hd.l.length:Int)) (hmaj:maj=(tl.length+1) / 2+1) (hR:comR maj hd.com com cs'):Come hd tl cs fly x ⟨hd.l,com⟩ tl cs' fly
def IsApps (hd:Rl) (cs:List Int) (os:List Fl):Prop:=os.length+1=cs.length∧∀(j:Nat) (x:Fl),os[j]?=some x→x.fr=0∧x.to=(j:Int)+1∧x.k=3∧(∃c,cs[j+1]?=some c∧x.n=c∧x.l=eC hd.l c)∧x.c=hd.com
theorem ajJ {hd:Rl} {c0:Int}:IsApps hd [c0] []:=⟨rfl,fun j x h=>by simp at h⟩
theorem adm {hd:Rl} {c0 c1:Int} {h1:Value} {e1:List Ke} (q1:e1=eC hd.l c1):IsApps hd [c0,c1] [⟨0,1,3,c1,hd.com,h1,e1⟩]:=⟨rfl,fun j x h=>match j,h with
 |0,h=>by cases h;exact⟨rfl,rfl,rfl,⟨_,rfl,rfl,q1⟩,rfl⟩
 |j+1,h=>by simp at h⟩
theorem Yw {hd:Rl} {c0 c1 c2:Int} {h1 h2:Value} {e1 e2:List Ke} (q:e1=eC hd.l c1∧e2=eC hd.l c2):IsApps hd [c0,c1,c2] [⟨0,1,3,c1,hd.com,h1,e1⟩,⟨0,2,3,c2,hd.com,h2,e2⟩]:=⟨rfl,fun j x h=>match j,h with
 |0,h=>by cases h;exact⟨rfl,rfl,rfl,⟨_,rfl,rfl,q.1⟩,rfl⟩
 |1,h=>by cases h;exact⟨rfl,rfl,rfl,⟨_,rfl,rfl,q.2⟩,rfl⟩
 |j+2,h=>by simp at h⟩
theorem PG {hd:Rl} {c0 c1 c2 c3:Int} {h1 h2 h3:Value} {e1 e2 e3:List Ke} (q:e1=eC hd.l c1∧e2=eC hd.l c2∧e3=eC hd.l c3):IsApps hd [c0,c1,c2,c3] [⟨0,1,3,c1,hd.com,h1,e1⟩,⟨0,2,3,c2,hd.com,h2,e2⟩,⟨0,3,3,c3,hd.com,h3,e3⟩]:=⟨rfl,fun j x h=>match j,h with
 |0,h=>by cases h;exact⟨rfl,rfl,rfl,⟨_,rfl,rfl,q.1⟩,rfl⟩
 |1,h=>by cases h;exact⟨rfl,rfl,rfl,⟨_,rfl,rfl,q.2.1⟩,rfl⟩
 |2,h=>by cases h;exact⟨rfl,rfl,rfl,⟨_,rfl,rfl,q.2.2⟩,rfl⟩
 |j+3,h=>by simp at h⟩
theorem MsgOk.to_ {hd:Rl} {tl:List Rl} {x:Fl} (h:MsgOk hd tl x) {j:Nat} {r:Rl} (hr:tl[j]?=some r):x.k=3→x.to=(j:Int)+1→0≤x.n∧x.n≤(r.l.length:Int):=fun hk ht=>by
 obtain⟨_,i,r',h1,h2,h3,h4,_⟩:=h.app hk
 obtain rfl:i=j:=by omega
 rw[hr]at h2
 cases h2
 exact⟨h3,h4⟩
theorem MsgOk.flat {hd:Rl} {tl:List Rl} {x:Fl} (h:MsgOk hd tl x):(x.k=3→x.fr=0∧1≤x.to∧x.to≤(tl.length:Int)∧0≤x.n∧x.n+(x.l.length:Int)≤(hd.l.length:Int)∧0≤x.c∧x.c≤(hd.l.length:Int))∧(x.k=4→x.to=0∧x.l.length=0∧x.c=0∧1≤x.fr∧x.fr≤(tl.length:Int)∧0≤x.n):=by
 refine⟨fun hk=> ?_,fun hk=> ?_⟩
 ·obtain⟨h0,i,r',h1,h2,h3,h4,h5,_,h6,h7⟩:=h.app hk
  have:=(List.getElem?_eq_some_iff.1 h2).1
  exact⟨h0,by omega,by omega,h3,h5,h6,h7⟩
 ·obtain⟨h0,h1,h2,i,r',h3,h4,h5,_⟩:=h.ack hk
  have:=(List.getElem?_eq_some_iff.1 h4).1
  exact⟨h0,by rw[h1];rfl,h2,by omega,by omega,h5⟩
theorem MsgOk.ks {hd:Rl} {tl:List Rl} {x:Fl} (h:MsgOk hd tl x) (hk:Bn hd.l):Bn x.l:=by
 rcases h.kind with k|k
 ·obtain⟨_,i,r',_,_,_,_,_,e,_⟩:=h.app k
  rw[e]
  exact fun y hy=>hk y (List.mem_of_mem_drop (List.mem_of_mem_take hy))
 ·obtain⟨_,e,_⟩:=h.ack k
  rw[e]
  exact fun y hy=>by simp at hy
theorem MsgOk.ackle {hd:Rl} {tl:List Rl} {cs:List Int} {fly:List Fl} {x:Fl} (h:MsgOk hd tl x) (hi:FInv hd tl cs fly):x.k=4→x.n≤(hd.l.length:Int):=fun hk=>by
 obtain⟨_,_,_,i,r',_,h4,_,h6⟩:=h.ack hk
 obtain⟨c,hc⟩:∃c,cs[i+1]?=some c:=⟨_,List.getElem?_eq_getElem (by have:=(List.getElem?_eq_some_iff.1 h4).1;have:=hi.clen;omega)⟩
 obtain⟨_,_,_,h7,_⟩:=hi.each i r' c h4 hc
 omega
theorem FInv.one {hd:Rl} {tl:List Rl} {cs:List Int} {fly:List Fl} (h:FInv hd tl cs fly) {j:Nat} {r:Rl} {c:Int} (hr:tl[j]?=some r) (hc:cs[j+1]?=some c):0≤c∧c≤(r.l.length:Int)∧r.l.length≤hd.l.length∧0≤r.com∧r.com≤(r.l.length:Int):=by
 obtain⟨a,b,_,d,e,f⟩:=h.each j r c hr hc
 exact⟨a,b,d,e,f⟩
theorem gH {L:List Fl} {a i:Nat} {x:Fl} (h:L[a+i]?=some x):x∈L.drop a:=List.mem_of_getElem? (i:=i) (by rw[List.getElem?_drop];exact h)
section
variable {hd:Rl} {tl:List Rl} {cs:List Int} {fly:List Fl}
theorem BL:∀{os fly:List Fl},fly.length≤400→(fq fly os).length≤400
 |[],fly,h=>h
 |o::os,fly,h=>by
  unfold fq
  split
  ·exact BL (by simp only[akk,List.length_singleton];omega)
  ·exact h
theorem BK:∀{os fly:List Fl} {x:Fl},x∈fq fly os→x∈fly∨x∈os
 |[],fly,x,h=>.inl h
 |o::os,fly,x,h=>by
  unfold fq at h
  split at h
  ·rcases BK h with h|h
   ·rcases List.mem_append.1 h with h|h
    ·exact .inl h
    ·exact .inr (by rw[List.mem_singleton.1 h];exact List.mem_cons_self)
   ·exact .inr (List.mem_cons_of_mem _ h)
  ·exact .inl h
theorem Zd {α:Type} (l:List α) (k:Nat):l.take k=l.take (l.take k).length:=by
 rw[aky]
 rcases Nat.le_total k l.length with h|h
 ·rw[Nat.min_eq_left h]
 ·rw[Nat.min_eq_right h,List.take_of_length_le h,List.take_of_length_le (akz _)]
theorem OS {l:List Ke} {c:Int} (h0:0≤c) (h1:c≤(l.length:Int)):c+((eC l c).length:Int)≤(l.length:Int)∧min (l.length:Int) (c+16)≤c+((eC l c).length:Int):=by
 unfold eC
 rw[aky,akG]
 omega
theorem IsApps.ok (h:FInv hd tl cs fly) {os:List Fl} (ha:IsApps hd cs os) {x:Fl} (hx:x∈os):MsgOk hd tl x:=by
 obtain⟨j,hj⟩:=List.mem_iff_getElem?.1 hx
 obtain⟨a1,a2,a3,⟨c,hc,a4,a5⟩,a6⟩:=ha.2 j x hj
 have hjl:=(List.getElem?_eq_some_iff.1 hj).1
 have hcl:=h.clen
 have:=ha.1
 obtain⟨r,hr⟩:∃r,tl[j]?=some r:=⟨_,List.getElem?_eq_getElem (by omega)⟩
 obtain⟨b1,b2,b3,b4,_⟩:=h.each j r c hr hc
 have hb:=OS (l:=hd.l) b1 (by omega)
 refine⟨.inl a3,fun _=>⟨a1,j,r,a2,hr,by omega,by omega,by rw[a4,a5];exact hb.1,?_,by rw[a6];exact h.com0,by rw[a6];exact h.coml⟩,fun hk=>by omega⟩
 rw[a4,a5]
 exact Zd _ _
theorem FInv.tick (h:FInv hd tl cs fly) {os:List Fl} (ha:IsApps hd cs os):FInv hd tl cs (fq fly os):=
 {h with few:=BL h.few,msgs:=fun x hx=>(BK hx).elim (h.msgs x) fun hx=>ha.ok h hx}
theorem FInv.sub (h:FInv hd tl cs fly) {fly':List Fl} (hs:∀x,x∈fly'→x∈fly) (hl:fly'.length≤400):FInv hd tl cs fly':={h with few:=hl,msgs:=fun x hx=>h.msgs x (hs x hx)}
theorem MsgOk.mono {hd':Rl} {tl':List Rl} {x:Fl} (h:MsgOk hd tl x) (e:List Ke) (he:hd'.l=hd.l++e) (ht:∀(i:Nat) (r:Rl),tl[i]?=some r→∃r',tl'[i]?=some r'∧r.l.length≤r'.l.length):MsgOk hd' tl' x:=by
 have hl:hd'.l.length=hd.l.length+e.length:=by rw[he,akk]
 refine⟨h.kind,fun hk=> ?_,fun hk=> ?_⟩
 ·obtain⟨h0,i,r,h1,h2,h3,h4,h5,h6,h7,h8⟩:=h.app hk
  obtain⟨r',k1,k2⟩:=ht i r h2
  refine⟨h0,i,r',h1,k1,h3,by omega,by omega,?_,h7,by omega⟩
  have hlen:x.l.length≤(hd.l.drop x.n.toNat).length:=by rw[akG];omega
  rw[he,List.drop_append_of_le_length (by omega),List.take_append_of_le_length hlen]
  exact h6
 ·obtain⟨h0,h1,h2,i,r,h3,h4,h5,h6⟩:=h.ack hk
  obtain⟨r',k1,k2⟩:=ht i r h4
  exact⟨h0,h1,h2,i,r',h3,k1,h5,by omega⟩
theorem ail {tl:List Rl} {j:Nat} {r r':Rl} (hr:tl[j]?=some r) (hle:r.l.length≤r'.l.length):∀(i:Nat) (s:Rl),tl[i]?=some s→∃s',(tl.set j r')[i]?=some s'∧s.l.length≤s'.l.length:=fun i s hs=>by
 have hi:=(List.getElem?_eq_some_iff.1 hs).1
 by_cases e:j=i
 ·subst e
  rw[hr]at hs
  cases hs
  exact⟨r',by rw[List.getElem?_set_self hi],hle⟩
 ·exact⟨s,by rw[List.getElem?_set_ne e];exact hs,akz _⟩
theorem PU {x:Fl} {j:Nat} {r:Rl} {l:List Ke} {com:Int} (h:FInv hd tl cs fly) (hm:MsgOk hd tl x) (hk:x.k=3) (ht:x.to=(j:Int)+1) (hr:tl[j]?=some r) (hT:Yz r.l r.com x l com):
  l=hd.l.take l.length∧r.l.length≤l.length∧l.length≤hd.l.length∧x.n+(x.l.length:Int)≤(l.length:Int)∧0≤com∧com≤(l.length:Int)∧r.com≤com∧min x.c (l.length:Int)≤com:=by
 obtain⟨_,i,r',h1,h2,h3,h4,h5,h6,h7,h8⟩:=hm.app hk
 obtain rfl:i=j:=by omega
 rw[hr]at h2
 cases h2
 obtain⟨c,hc⟩:∃c,cs[i+1]?=some c:=⟨_,List.getElem?_eq_getElem (by have:=(List.getElem?_eq_some_iff.1 hr).1;have:=h.clen;omega)⟩
 obtain⟨_,_,b3,b4,b5,b6⟩:=h.each i r c hr hc
 obtain⟨hT1,hT2,_⟩:=hT
 have hxl:x.l.length≤(hd.l.drop x.n.toNat).length:=by rw[akG];omega
 have key:l=hd.l.take l.length∧r.l.length≤l.length∧l.length≤hd.l.length∧x.n+(x.l.length:Int)≤(l.length:Int):=by
  rcases hT1 with⟨q,e⟩|⟨q,e⟩
  ·have d1:x.l.drop ((r.l.length:Int) - x.n).toNat=(List.take x.l.length (hd.l.drop x.n.toNat)).drop ((r.l.length:Int) - x.n).toNat:=by rw[←h6]
   have e4:x.n.toNat+((r.l.length:Int) - x.n).toNat=r.l.length:=by omega
   have e2:l=hd.l.take (x.n.toNat+x.l.length):=by
    rw[e,d1,List.drop_take,List.drop_drop,e4]
    have e3:∀m:List Ke,r.l++m=hd.l.take r.l.length++m:=fun m=>by rw[←b3]
    rw[e3,←List.take_add]
    congr 1
    omega
   have e5:l.length=x.n.toNat+x.l.length:=by rw[e2,aky];omega
   exact⟨by rw[e5];exact e2,by omega,by omega,by omega⟩
  ·subst e
   exact⟨b3,akz _,b4,by omega⟩
 obtain⟨k1,k2,k3,k4⟩:=key
 exact⟨k1,k2,k3,k4,by omega,by omega,by omega,by omega⟩
theorem FInv.take {x:Fl} {j:Nat} {r:Rl} {l:List Ke} {com:Int} {hv:Value} {fly':List Fl} (h:FInv hd tl cs fly) (hm:MsgOk hd tl x) (hk:x.k=3) (ht:x.to=(j:Int)+1) (hr:tl[j]?=some r) (hT:Yz r.l r.com x l com) (hf:fly'=fq fly [⟨(j:Int)+1,x.fr,4,(l.length:Int),0,hv,[]⟩]):FInv hd (tl.set j ⟨l,com⟩) cs fly':=by
 obtain⟨k1,k2,k3,k4,k5,k6,k7,k8⟩:=PU h hm hk ht hr hT
 have hj:=(List.getElem?_eq_some_iff.1 hr).1
 have hmono:=ail (r':=⟨l,com⟩) hr k2
 refine⟨by rw[List.length_set];exact h.clen,h.ks,h.short,by rw[hf];exact BL h.few,h.com0,h.coml,h.c0,fun i s c hs hc=> ?_,by rw[List.length_set];exact h.set,fun y hy=> ?_⟩
 ·by_cases e:j=i
  ·subst e
   rw[List.getElem?_set_self hj]at hs
   cases hs
   obtain⟨b1,b2,_⟩:=h.each j r c hr hc
   exact⟨b1,by simp only;omega,k1,k3,k5,k6⟩
  ·rw[List.getElem?_set_ne e]at hs
   exact h.each i s c hs hc
 ·rw[hf]at hy
  rcases BK hy with hy|hy
  ·exact(h.msgs y hy).mono [] (by simp) hmono
  ·rw[List.mem_singleton.1 hy]
   exact⟨.inr rfl,fun hk=>by simp at hk,fun _=>⟨(hm.app hk).1,rfl,rfl,j,⟨l,com⟩,rfl,by rw[List.getElem?_set_self hj],by simp,by simp⟩⟩
theorem comR.le {maj:Nat} {com c2:Int} {cl:List Int} (h:comR maj com c2 cl) (h1:1≤maj) {L:Int} (hc:com≤L) (hl:∀c∈cl,c≤L):com≤c2∧c2≤L∧∀u:Int,maj≤(cl.filter fun x=>decide (u≤x)).length→u≤c2:=by
 obtain⟨v,e,h2,h3⟩:=h
 obtain⟨c,hc2⟩:∃c,c∈cl.filter fun x=>decide (v≤x):=List.exists_mem_of_length_pos (by omega)
 have h4:=List.mem_filter.1 hc2
 have h5:=hl c h4.1
 have h6:v≤c:=by simpa using h4.2
 exact⟨by omega,by omega,fun u hu=>by have:=h3 u hu;omega⟩
theorem FInv.acked {x:Fl} {j maj:Nat} {com:Int} {cs':List Int} (h:FInv hd tl cs fly) (hm:MsgOk hd tl x) (hk:x.k=4) (h1:1≤j) (h2:j<tl.length+1) (hw:x.fr=(j:Int)) (hc:cs'=(cs.set j (max (cs.getD j 0) x.n)).set 0 (hd.l.length:Int)) (hmaj:maj=(tl.length+1) / 2+1) (hR:comR maj hd.com com cs'):FInv ⟨hd.l,com⟩ tl cs' fly:=by
 obtain⟨_,_,_,i,r,h3,h4,h5,h6⟩:=hm.ack hk
 obtain rfl:j=i+1:=by omega
 have hcl:=h.clen
 have e1:cs'.length=cs.length:=by rw[hc,List.length_set,List.length_set]
 have hj:i+1<cs.length:=by omega
 have h0:cs'[0]?=some (hd.l.length:Int):=by rw[hc,List.getElem?_set_self (by rw[List.length_set];omega)]
 have hne:∀k,(k+1:Nat)≠i+1→cs'[k+1]?=cs[k+1]?:=fun k hk=>by rw[hc,List.getElem?_set_ne (by omega),List.getElem?_set_ne (by omega)]
 have heq:cs'[i+1]?=some (max (cs.getD (i+1) 0) x.n):=by rw[hc,List.getElem?_set_ne (by omega),List.getElem?_set_self hj]
 have each:∀(k:Nat) (s:Rl) (c:Int),tl[k]?=some s→cs'[k+1]?=some c→0≤c∧c≤(s.l.length:Int)∧s.l=hd.l.take s.l.length∧s.l.length≤hd.l.length∧0≤s.com∧s.com≤(s.l.length:Int):=fun k s c hs hc'=>by
  by_cases e:k=i
  ·subst e
   rw[h4]at hs
   cases hs
   rw[heq]at hc'
   cases hc'
   have hg:cs[k+1]?=some (cs.getD (k+1) 0):=by rw[List.getD_eq_getElem?_getD,List.getElem?_eq_getElem hj];rfl
   obtain⟨b1,b2,b3,b4⟩:=h.each k r _ h4 hg
   exact⟨by omega,by omega,b3,b4⟩
  ·rw[hne k (by omega)]at hc'
   exact h.each k s c hs hc'
 have hle:∀c∈cs',c≤(hd.l.length:Int):=fun c hc'=>by
  obtain⟨k,hk⟩:=List.mem_iff_getElem?.1 hc'
  cases k with
  |zero=>rw[h0]at hk;cases hk;exact Int.le_refl _
  |succ k=>
   have hk2:=(List.getElem?_eq_some_iff.1 hk).1
   obtain⟨s,hs⟩:∃s,tl[k]?=some s:=⟨_,List.getElem?_eq_getElem (by omega)⟩
   obtain⟨_,b2,_,b4,_⟩:=each k s c hs hk
   omega
 obtain⟨c1,c2,c3⟩:=hR.le (by omega) h.coml hle
 exact⟨by omega,h.ks,h.short,h.few,by have:=h.com0;simp only;omega,c2,h0,each,fun u hu=>c3 u (by rw[hmaj];exact hu),fun y hy=>(h.msgs y hy).mono [] (by simp) (fun i r hr=>⟨r,hr,akz _⟩)⟩
theorem FInv.come {x:Fl} {hd':Rl} {tl':List Rl} {cs':List Int} {fly':List Fl} (h:FInv hd tl cs fly) (hm:MsgOk hd tl x) (hc:Come hd tl cs fly x hd' tl' cs' fly'):FInv hd' tl' cs' fly':=by
 cases hc with
 |app j r l com hv _ hk ht hr hT hf=>exact h.take hm hk ht hr hT hf
 |ack j com _ maj hk h1 h2 hw hc hmaj hR=>exact h.acked hm hk h1 h2 hw hc hmaj hR
theorem FInv.add {x:Ke} {com:Int} {maj:Nat} (h:FInv hd tl cs fly) (hx:EB x) (hl:hd.l.length<400) (hmaj:maj=(tl.length+1) / 2+1) (hR:comR maj hd.com com (cs.set 0 ((hd.l++[x]).length:Int))):FInv ⟨hd.l++[x],com⟩ tl (cs.set 0 ((hd.l++[x]).length:Int)) fly:=by
 have hcl:=h.clen
 have hlen:(hd.l++[x]).length=hd.l.length+1:=by simp
 have each:∀(k:Nat) (s:Rl) (c:Int),tl[k]?=some s→(cs.set 0 ((hd.l++[x]).length:Int))[k+1]?=some c→0≤c∧c≤(s.l.length:Int)∧s.l=(hd.l++[x]).take s.l.length∧s.l.length≤(hd.l++[x]).length∧0≤s.com∧s.com≤(s.l.length:Int):=fun k s c hs hc=>by
  rw[List.getElem?_set_ne (by omega)]at hc
  obtain⟨b1,b2,b3,b4,b5,b6⟩:=h.each k s c hs hc
  exact⟨b1,b2,by rw[List.take_append_of_le_length b4];exact b3,by omega,b5,b6⟩
 have h0:(cs.set 0 ((hd.l++[x]).length:Int))[0]?=some ((hd.l++[x]).length:Int):=List.getElem?_set_self (by omega)
 have hle:∀c∈cs.set 0 ((hd.l++[x]).length:Int),c≤((hd.l++[x]).length:Int):=fun c hc'=>by
  obtain⟨k,hk⟩:=List.mem_iff_getElem?.1 hc'
  cases k with
  |zero=>rw[h0]at hk;cases hk;exact Int.le_refl _
  |succ k=>
   have hk2:=(List.getElem?_eq_some_iff.1 hk).1
   rw[List.length_set]at hk2
   obtain⟨s,hs⟩:∃s,tl[k]?=some s:=⟨_,List.getElem?_eq_getElem (by omega)⟩
   obtain⟨_,b2,_,b4,_⟩:=each k s c hs hk
   omega
 obtain⟨c1,c2,c3⟩:=hR.le (by omega) (by have:=h.coml;omega) hle
 exact⟨by rw[List.length_set];exact hcl,fun y hy=>(List.mem_append.1 hy).elim (h.ks y) fun hy=>by rw[List.mem_singleton.1 hy];exact hx,by simp only[hlen];omega,h.few,by have:=h.com0;simp only;omega,c2,h0,each,fun u hu=>c3 u (by rw[hmaj];exact hu),fun y hy=>(h.msgs y hy).mono [x] rfl (fun i r hr=>⟨r,hr,akz _⟩)⟩
end
end Go.Proofs.Tryz
namespace Go.Proofs.Tryz
open Go.Proofs.YtjhpjjbnojbikaaGreat (gw gN ii jj kU oS)
open Go Go.RowKit Go.Sy
open Go.Eng hiding ah
set_option maxRecDepth 1000000
set_option linter.unusedVariables false
set_option maxHeartbeats 4000000
structure G1 where
 s0:Rl
 c0:Int
 L:List Fl
 a:Nat
 o:Nat
 cp:Nat
 now:Int
 cnt:Int
def ef (f:G1):Prop:=FInv f.s0 ([]:List Rl) [f.c0] (f.L.drop f.a)∧f.a≤f.L.length
def Tk1 (f g:G1):Prop:=∃os,IsApps f.s0 [f.c0] os∧TL f.L f.a os g.L g.a∧g.s0=f.s0∧([]:List Rl)=([]:List Rl)∧[g.c0]=[f.c0]∧g.now=f.now+1∧g.cnt=f.cnt
theorem wF {f:G1} (h:ef f):f.a≤f.L.length∧f.s0.l.length≤400∧0≤f.s0.com∧f.s0.com≤(f.s0.l.length:Int):=by
 obtain⟨h,ha⟩:=h
 have h:FInv f.s0 _ _ _:=h
 exact⟨ha,h.short,h.com0,h.coml⟩
structure G2 where
 s0:Rl
 s1:Rl
 c0:Int
 c1:Int
 L:List Fl
 a:Nat
 o:Nat
 cp:Nat
 now:Int
 cnt:Int
def dH (f:G2):Prop:=FInv f.s0 [f.s1] [f.c0,f.c1] (f.L.drop f.a)∧f.a≤f.L.length
def Uu (f:G2) (x:Fl) (g:G2):Prop:=Come f.s0 [f.s1] [f.c0,f.c1] (f.L.drop f.a) x g.s0 [g.s1] [g.c0,g.c1] (g.L.drop g.a)∧g.now=f.now∧g.cnt=f.cnt∧g.a≤g.L.length∧g.L.length≤f.L.length+1
def WK (f g:G2):Prop:=∃os,IsApps f.s0 [f.c0,f.c1] os∧TL f.L f.a os g.L g.a∧g.s0=f.s0∧[g.s1]=[f.s1]∧[g.c0,g.c1]=[f.c0,f.c1]∧g.now=f.now+1∧g.cnt=f.cnt
theorem rC {f:G2} (h:dH f):f.a≤f.L.length∧f.s0.l.length≤400∧0≤f.s0.com∧f.s0.com≤(f.s0.l.length:Int)∧(0≤f.c1∧f.c1≤(f.s1.l.length:Int)∧f.s1.l.length≤f.s0.l.length∧0≤f.s1.com∧f.s1.com≤(f.s1.l.length:Int)):=by
 obtain⟨h,ha⟩:=h
 have h:FInv f.s0 _ _ _:=h
 exact⟨ha,h.short,h.com0,h.coml,h.one (j:=0) rfl rfl⟩
structure G3 where
 s0:Rl
 s1:Rl
 s2:Rl
 c0:Int
 c1:Int
 c2:Int
 L:List Fl
 a:Nat
 o:Nat
 cp:Nat
 now:Int
 cnt:Int
def dD (f:G3):Prop:=FInv f.s0 [f.s1,f.s2] [f.c0,f.c1,f.c2] (f.L.drop f.a)∧f.a≤f.L.length
def Lo (f:G3) (x:Fl) (g:G3):Prop:=Come f.s0 [f.s1,f.s2] [f.c0,f.c1,f.c2] (f.L.drop f.a) x g.s0 [g.s1,g.s2] [g.c0,g.c1,g.c2] (g.L.drop g.a)∧g.now=f.now∧g.cnt=f.cnt∧g.a≤g.L.length∧g.L.length≤f.L.length+1
def TP (f g:G3):Prop:=∃os,IsApps f.s0 [f.c0,f.c1,f.c2] os∧TL f.L f.a os g.L g.a∧g.s0=f.s0∧[g.s1,g.s2]=[f.s1,f.s2]∧[g.c0,g.c1,g.c2]=[f.c0,f.c1,f.c2]∧g.now=f.now+1∧g.cnt=f.cnt
theorem pv {f:G3} (h:dD f):f.a≤f.L.length∧f.s0.l.length≤400∧0≤f.s0.com∧f.s0.com≤(f.s0.l.length:Int)∧(0≤f.c1∧f.c1≤(f.s1.l.length:Int)∧f.s1.l.length≤f.s0.l.length∧0≤f.s1.com∧f.s1.com≤(f.s1.l.length:Int))∧(0≤f.c2∧f.c2≤(f.s2.l.length:Int)∧f.s2.l.length≤f.s0.l.length∧0≤f.s2.com∧f.s2.com≤(f.s2.l.length:Int)):=by
 obtain⟨h,ha⟩:=h
 have h:FInv f.s0 _ _ _:=h
 exact⟨ha,h.short,h.com0,h.coml,h.one (j:=0) rfl rfl,h.one (j:=1) rfl rfl⟩
structure G4 where
 s0:Rl
 s1:Rl
 s2:Rl
 s3:Rl
 c0:Int
 c1:Int
 c2:Int
 c3:Int
 L:List Fl
 a:Nat
 o:Nat
 cp:Nat
 now:Int
 cnt:Int
def dy (f:G4):Prop:=FInv f.s0 [f.s1,f.s2,f.s3] [f.c0,f.c1,f.c2,f.c3] (f.L.drop f.a)∧f.a≤f.L.length
def EL (f:G4) (x:Fl) (g:G4):Prop:=Come f.s0 [f.s1,f.s2,f.s3] [f.c0,f.c1,f.c2,f.c3] (f.L.drop f.a) x g.s0 [g.s1,g.s2,g.s3] [g.c0,g.c1,g.c2,g.c3] (g.L.drop g.a)∧g.now=f.now∧g.cnt=f.cnt∧g.a≤g.L.length∧g.L.length≤f.L.length+1
def OT (f g:G4):Prop:=∃os,IsApps f.s0 [f.c0,f.c1,f.c2,f.c3] os∧TL f.L f.a os g.L g.a∧g.s0=f.s0∧[g.s1,g.s2,g.s3]=[f.s1,f.s2,f.s3]∧[g.c0,g.c1,g.c2,g.c3]=[f.c0,f.c1,f.c2,f.c3]∧g.now=f.now+1∧g.cnt=f.cnt
theorem mU {f:G4} (h:dy f):f.a≤f.L.length∧f.s0.l.length≤400∧0≤f.s0.com∧f.s0.com≤(f.s0.l.length:Int)∧(0≤f.c1∧f.c1≤(f.s1.l.length:Int)∧f.s1.l.length≤f.s0.l.length∧0≤f.s1.com∧f.s1.com≤(f.s1.l.length:Int))∧(0≤f.c2∧f.c2≤(f.s2.l.length:Int)∧f.s2.l.length≤f.s0.l.length∧0≤f.s2.com∧f.s2.com≤(f.s2.l.length:Int))∧(0≤f.c3∧f.c3≤(f.s3.l.length:Int)∧f.s3.l.length≤f.s0.l.length∧0≤f.s3.com∧f.s3.com≤(f.s3.l.length:Int)):=by
 obtain⟨h,ha⟩:=h
 have h:FInv f.s0 _ _ _:=h
 exact⟨ha,h.short,h.com0,h.coml,h.one (j:=0) rfl rfl,h.one (j:=1) rfl rfl,h.one (j:=2) rfl rfl⟩
noncomputable def cN (f:G1) (k0:Nat) (k1:Nat):T:=(.node (.node (.node (.node .leaf (some (bA)) .leaf) (some (.prow 76 33 Fl f.L cw)) (.node .leaf (some (.prow 68 18 Ke f.s0.l ai)) .leaf)) (some (.blk true 36 1 [[.ptr 4 0]])) (.node (.node .leaf (some (bV 1 13)) .leaf) (some (jb)) (.node .leaf (some (jb)) .leaf))) (some (.blk false 34 5 [[.sl 1 0 1 (.rest 0),.sl 2 0 1 (.rest 0),.sy (.psub 3 33 f.a k0 f.o (some f.cp)),.sy (.int 0 f.now),.sy (.int 0 f.cnt)]])) (.node (.node (.node .leaf (some (jb)) .leaf) (some (bS 1 5 6 7 8 9 aa)) (.node .leaf (some (.map [(.agg bu,.sy (.int 0 f.c0),0)] 1)) .leaf)) (some (.blk true 4 1 [[.bool false]])) (.node (.node .leaf (some (jb)) .leaf) (some (bR 1 10 11 12 aa k1 f.s0.com)) .leaf)))
noncomputable def Fg2 (f:G2) (e1:Int) (d1_0:Int) (d1_1:Int) (k0:Nat) (k1:Nat) (k2:Nat):T:=(.node (.node (.node (.node (.node .leaf (some (bV 2 23)) .leaf) (some (bR 2 16 17 18 aa k1 f.s0.com)) (.node .leaf (some (bN)) .leaf)) (some (.prow 76 33 Fl f.L cw)) (.node (.node .leaf (some (bN)) .leaf) (some (bN)) .leaf)) (some (.blk true 36 1 [[.ptr 4 0],[.ptr 5 0]])) (.node (.node (.node .leaf (some (.prow 68 18 Ke f.s0.l ai)) .leaf) (some (bN)) .leaf) (some (bS 2 11 12 13 14 15 (.sy (.int 1 e1)))) (.node (.node .leaf (some (.prow 68 18 Ke f.s1.l ai)) .leaf) (some (bA)) .leaf))) (some (.blk false 34 5 [[.sl 1 0 2 (.rest 0),.sl 2 0 2 (.rest 0),.sy (.psub 3 33 f.a k0 f.o (some f.cp)),.sy (.int 0 f.now),.sy (.int 0 f.cnt)]])) (.node (.node (.node (.node .leaf (some (bN)) .leaf) (some (bA)) .leaf) (some (bS 2 6 7 8 9 10 aa)) (.node (.node .leaf (some (bN)) .leaf) (some (bR 2 20 21 22 (.sy (.int 1 e1)) k2 f.s1.com)) .leaf)) (some (.blk true 4 1 [[.bool false],[.bool false]])) (.node (.node (.node .leaf (some (.map [(.agg bu,.sy (.int 0 f.c0),0),(.agg bK,.sy (.int 0 f.c1),1)] 2)) .leaf) (some (bV 2 19)) .leaf) (some (bN)) (.node (.node .leaf (some (.map [(.agg bu,.sy (.int 0 d1_0),0),(.agg bK,.sy (.int 0 d1_1),1)] 2)) .leaf) (some (bN)) .leaf))))
noncomputable def cd (f:G2) (k0:Nat) (k1:Nat) (k2:Nat):T:=(Fg2 f 1 0 0 k0 k1 k2)
noncomputable def Ln (f:G3) (e1:Int) (d1_0:Int) (d1_1:Int) (d1_2:Int) (e2:Int) (d2_0:Int) (d2_1:Int) (d2_2:Int) (k0:Nat) (k1:Nat) (k2:Nat) (k3:Nat):T:=(.node (.node (.node (.node (.node (.node .leaf (some (.prow 68 18 Ke f.s2.l ai)) .leaf) (some (bE)) .leaf) (some (bE)) (.node .leaf (some (.prow 68 18 Ke f.s0.l ai)) .leaf)) (some (.prow 76 33 Fl f.L cw)) (.node (.node .leaf (some (bA)) .leaf) (some (bV 3 25)) (.node .leaf (some (.prow 68 18 Ke f.s1.l ai)) .leaf))) (some (.blk true 36 1 [[.ptr 4 0],[.ptr 5 0],[.ptr 6 0]])) (.node (.node (.node (.node .leaf (some (bE)) .leaf) (some (bE)) .leaf) (some (bA)) (.node .leaf (some (bE)) .leaf)) (some (bS 3 12 13 14 15 16 (.sy (.int 1 e1)))) (.node (.node .leaf (some (bV 3 33)) .leaf) (some (bR 3 26 27 28 (.sy (.int 1 e1)) k2 f.s1.com)) (.node .leaf (some (bE)) .leaf)))) (some (.blk false 34 5 [[.sl 1 0 3 (.rest 0),.sl 2 0 3 (.rest 0),.sy (.psub 3 33 f.a k0 f.o (some f.cp)),.sy (.int 0 f.now),.sy (.int 0 f.cnt)]])) (.node (.node (.node (.node (.node .leaf (some (.map [(.agg bu,.sy (.int 0 d2_0),0),(.agg bK,.sy (.int 0 d2_1),1),(.agg cQ,.sy (.int 0 d2_2),2)] 3)) .leaf) (some (bV 3 29)) .leaf) (some (bR 3 22 23 24 aa k1 f.s0.com)) (.node .leaf (some (.map [(.agg bu,.sy (.int 0 f.c0),0),(.agg bK,.sy (.int 0 f.c1),1),(.agg cQ,.sy (.int 0 f.c2),2)] 3)) .leaf)) (some (bS 3 7 8 9 10 11 aa)) (.node (.node .leaf (some (bE)) .leaf) (some (bE)) (.node .leaf (some (.map [(.agg bu,.sy (.int 0 d1_0),0),(.agg bK,.sy (.int 0 d1_1),1),(.agg cQ,.sy (.int 0 d1_2),2)] 3)) .leaf))) (some (.blk true 4 1 [[.bool false],[.bool false],[.bool false]])) (.node (.node (.node .leaf (some (bR 3 30 31 32 (.sy (.int 1 e2)) k3 f.s2.com)) .leaf) (some (bE)) (.node .leaf (some (bE)) .leaf)) (some (bS 3 17 18 19 20 21 (.sy (.int 1 e2)))) (.node (.node .leaf (some (bE)) .leaf) (some (bA)) (.node .leaf (some (bE)) .leaf)))))
noncomputable def bP (f:G3) (k0:Nat) (k1:Nat) (k2:Nat) (k3:Nat):T:=(Ln f 1 0 0 0 2 0 0 0 k0 k1 k2 k3)
noncomputable def zC (f:G4) (e1:Int) (d1_0:Int) (d1_1:Int) (d1_2:Int) (d1_3:Int) (e2:Int) (d2_0:Int) (d2_1:Int) (d2_2:Int) (d2_3:Int) (e3:Int) (d3_0:Int) (d3_1:Int) (d3_2:Int) (d3_3:Int) (k0:Nat) (k1:Nat) (k2:Nat) (k3:Nat) (k4:Nat):T:=(.node (.node (.node (.node (.node (.node .leaf (some (bw)) .leaf) (some (bA)) .leaf) (some (bS 4 23 24 25 26 27 (.sy (.int 1 e3)))) (.node (.node .leaf (some (bw)) .leaf) (some (bw)) .leaf)) (some (.prow 76 33 Fl f.L cw)) (.node (.node (.node .leaf (some (bw)) .leaf) (some (bR 4 36 37 38 (.sy (.int 1 e2)) k3 f.s2.com)) .leaf) (some (bw)) (.node (.node .leaf (some (bw)) .leaf) (some (bV 4 43)) .leaf))) (some (.blk true 36 1 [[.ptr 4 0],[.ptr 5 0],[.ptr 6 0],[.ptr 7 0]])) (.node (.node (.node (.node .leaf (some (.prow 68 18 Ke f.s1.l ai)) .leaf) (some (bV 4 35)) .leaf) (some (bR 4 28 29 30 aa k1 f.s0.com)) (.node (.node .leaf (some (.prow 68 18 Ke f.s3.l ai)) .leaf) (some (bA)) .leaf)) (some (bS 4 13 14 15 16 17 (.sy (.int 1 e1)))) (.node (.node (.node .leaf (some (.prow 68 18 Ke f.s2.l ai)) .leaf) (some (bw)) .leaf) (some (bw)) (.node .leaf (some (.prow 68 18 Ke f.s0.l ai)) .leaf)))) (some (.blk false 34 5 [[.sl 1 0 4 (.rest 0),.sl 2 0 4 (.rest 0),.sy (.psub 3 33 f.a k0 f.o (some f.cp)),.sy (.int 0 f.now),.sy (.int 0 f.cnt)]])) (.node (.node (.node (.node (.node .leaf (some (bw)) .leaf) (some (bw)) .leaf) (some (bw)) (.node (.node .leaf (some (bw)) .leaf) (some (bR 4 40 41 42 (.sy (.int 1 e3)) k4 f.s3.com)) .leaf)) (some (bS 4 8 9 10 11 12 aa)) (.node (.node (.node .leaf (some (bw)) .leaf) (some (bA)) .leaf) (some (bV 4 31)) (.node .leaf (some (bw)) .leaf))) (some (.blk true 4 1 [[.bool false],[.bool false],[.bool false],[.bool false]])) (.node (.node (.node (.node .leaf (some (.map [(.agg bu,.sy (.int 0 d1_0),0),(.agg bK,.sy (.int 0 d1_1),1),(.agg cQ,.sy (.int 0 d1_2),2),(.agg fx,.sy (.int 0 d1_3),3)] 4)) .leaf) (some (bw)) .leaf) (some (bA)) (.node (.node .leaf (some (.map [(.agg bu,.sy (.int 0 d3_0),0),(.agg bK,.sy (.int 0 d3_1),1),(.agg cQ,.sy (.int 0 d3_2),2),(.agg fx,.sy (.int 0 d3_3),3)] 4)) .leaf) (some (bw)) .leaf)) (some (bS 4 18 19 20 21 22 (.sy (.int 1 e2)))) (.node (.node (.node .leaf (some (.map [(.agg bu,.sy (.int 0 d2_0),0),(.agg bK,.sy (.int 0 d2_1),1),(.agg cQ,.sy (.int 0 d2_2),2),(.agg fx,.sy (.int 0 d2_3),3)] 4)) .leaf) (some (bV 4 39)) .leaf) (some (bR 4 32 33 34 (.sy (.int 1 e1)) k2 f.s1.com)) (.node .leaf (some (.map [(.agg bu,.sy (.int 0 f.c0),0),(.agg bK,.sy (.int 0 f.c1),1),(.agg cQ,.sy (.int 0 f.c2),2),(.agg fx,.sy (.int 0 f.c3),3)] 4)) .leaf)))))
noncomputable def bG (f:G4) (k0:Nat) (k1:Nat) (k2:Nat) (k3:Nat) (k4:Nat):T:=(zC f 1 0 0 0 0 2 0 0 0 0 3 0 0 0 0 k0 k1 k2 k3 k4)
def SE:XF:=.mk 45 .none (.pre [.fixg 1 1 0 2,.fixg 1 2 3 2] (.seq (g_ 1 [e_ 0 3 (.box 76 (.t 1))]) (.seq (h_ 19 [p_ 0 4 (f_ 1 3),r_ 1 5 (l_ 4),p_ 2 6 (m_ 0),p_ 3 7 (n_ 6),p_ 4 8 (f_ 0 7),r_ 5 9 (l_ 8),p_ 6 10 (k_ 9),p_ 7 11 (.bin 3 0 (.t 5) (.t 10)),p_ 8 12 (m_ 11),am 9 13 12 true (m_ 0),am 10 14 12 true (n_ 13),am 11 15 12 true (f_ 1 14),aU 12 16 12 true (l_ 15),am 13 17 12 true (f_ 1 3),aU 14 18 12 true (l_ 17),am 15 19 12 true (.ixs 1 (.t 16) (.t 18)),aU 16 20 12 true (l_ 19),am 17 21 12 true (.un 0 (.t 20)),p_ 18 22 (.pick (.t 12) (.t 21) (.c (.bool false)))]) (.cond (.t 22) (h_ 22 [p_ 0 23 (m_ 0),p_ 1 24 (f_ 1 3),r_ 2 25 (l_ 24),p_ 3 26 (m_ 0),p_ 4 27 (n_ 26),p_ 5 28 (f_ 0 27),r_ 6 29 (l_ 28),p_ 7 30 (f_ 1 3),r_ 8 31 (l_ 30),p_ 9 32 (.ixs 1 (.t 29) (.t 31)),r_ 10 33 (l_ 32),p_ 11 34 (m_ 0),p_ 12 35 (n_ 34),p_ 13 36 (f_ 3 35),r_ 14 37 (l_ 36),p_ 15 38 (f_ 0 3),r_ 16 39 (l_ 38),p_ 18 41 (f_ 2 3),r_ 19 42 (.ld true 31 (.t 41)),c_ 17 40 21 [.t 39],a_ 2 25 (l_ 24),a_ 6 29 (l_ 28),a_ 8 31 (l_ 30),a_ 10 33 (l_ 32),a_ 14 37 (l_ 36),a_ 19 42 (.ld true 31 (.t 41)),c_ 20 43 51 [.t 33,.t 37,.t 40,.t 42],a_ 2 25 (l_ 24),c_ 21 44 49 [.t 23,.t 25,.t 43]]) .skip))))
theorem Vp:aW Tryz.prog 29 SE=true:=by kernel_rfl
structure oQ where
 f:G2
 t:Fl
structure Nn where
 f:G2
def jp (p:oQ) (r:Nn):Prop:=Uu p.f p.t r.f
noncomputable def ud (p:oQ):IE:=([.ptr 0 0,.agg [.sy (.int 0 p.t.fr),.sy (.int 0 p.t.to),.sy (.int 1 p.t.k),aa,aa,bt,.sy (.int 3 p.t.n),.sy (.int 3 p.t.c),aw,aI,aI,aa,aJ,aw,aa,aa,aa,aa,aa,aa,aa,.nilS,aa,.str [],aa,aw,.nilS,aa,aJ,.bool false,.nilS,.sy (.imm p.t.h 18 Ke p.t.l ai),.nilS]],(cd p.f (p.f.L.length - p.f.a) p.f.s0.l.length p.f.s1.l.length),24)
noncomputable def CF (p:oQ) (K:KE):Bool:=ah fun r:Nn=>iP (jp p r) (K (.tup []) (cd r.f (r.f.L.length - r.f.a) r.f.s0.l.length r.f.s1.l.length) 24) true
def kL (p:oQ):Prop:=dH p.f∧MsgOk p.f.s0 [p.f.s1] p.t∧0≤p.f.now∧p.f.now≤1000000∧p.f.L.length≤1000000
theorem DU {p:oQ} {K:KE} (hK:CF p K=true) (r:Nn) (h:jp p r):K (.tup []) (cd r.f (r.f.L.length - r.f.a) r.f.s0.l.length r.f.s1.l.length) 24=true:=aA h (au hK r)
theorem abf (p:oQ) (K:KE) (hpre:kL p) (hK:CF p K=true):(aY 1 (bg Ay) bp 600 SE (ud p).1 (ud p).2.1 (ud p).2.2 K)=true:=by
 refine Eq.trans (b:=(iP (p.t.to=0) (iP (p.t.k=3) (mP (aL 1 p.t.fr) (mP (((.int 0 p.f.now):SY)=(.int 0 p.f.now)) (ac (qL [qI 3 p.t.n,qI 3 p.t.c,qY ((.imm p.t.h 18 Ke p.t.l ai))]) (false)))) (iP (p.t.k=4) (mP (aL 1 p.t.fr) (mP (((.int 0 p.f.now):SY)=(.int 0 p.f.now)) (ac (qL [qI 3 p.t.n,qI 3 p.t.c,qY ((.imm p.t.h 18 Ke p.t.l ai))]) (bf (([.ptr 0 0,.sy (.int 0 p.f.now),.agg [.sy (.int 1 p.t.fr),bj],.agg [ju,aa,aa,bt,.sy (.int 3 p.t.n),.sy (.int 3 p.t.c),aw,aI,aI,aa,aJ,aw,aa,aa,aa,aa,aa,aa,aa,.nilS,aa,.str [],aa,aw,.nilS,aa,aJ,.bool false,.nilS,.sy (.imm p.t.h 18 Ke p.t.l ai),.nilS]],(dB p.f.s0.l p.f.s0.com p.f.c0 p.f.c1),10)) vW pg nX fun p2 r2=>K (.tup []) (cd ({p.f with s0:=⟨p2.l,r2.com⟩,c0:=r2.c0,c1:=r2.c1}:G2) (p.f.L.length - p.f.a) p2.l.length p.f.s1.l.length) 24)))) (mP (False) (true)))) (iP (p.t.to=1) (iP (p.t.k=3) (mP (aL 1 p.t.fr) (mP (((.int 0 p.f.now):SY)=(.int 0 p.f.now)) (ac (qL [qI 3 p.t.n,qI 3 p.t.c,qY ((.imm p.t.h 18 Ke p.t.l ai))]) (bf (([.ptr 0 0,.sy (.int 0 p.f.now),.agg [.sy (.int 1 p.t.fr),bj],.agg [cu,aa,aa,bt,.sy (.int 3 p.t.n),.sy (.int 3 p.t.c),aw,aI,aI,aa,aJ,aw,aa,aa,aa,aa,aa,aa,aa,.nilS,aa,.str [],aa,aw,.nilS,aa,aJ,.bool false,.nilS,.sy (.imm p.t.h 18 Ke p.t.l ai),.nilS]],(dJ p.f.s1.l p.f.s1.com 0 0 1),10)) vX ph sj fun p1 r1=>iP (((p.f.L.length - p.f.a:Nat):Int)<(400:Int)) (mP (aL 0 p1.w) (mP (((.psub 3 33 p.f.a (p.f.L.length - p.f.a) p.f.o (some p.f.cp)):SY)=(.psub 3 33 p.f.a (p.f.L.length - p.f.a) p.f.o (some p.f.cp))) (mP (p.f.a+(p.f.L.length - p.f.a)=p.f.L.length) (ax fun m1:List Fl=>mP (bz (m1.map cw) [[.int 0 (.ofNat 1),.sint 0 p1.w,.int 1 (.ofNat 4),.int 1 (.ofNat 0),.int 1 (.ofNat 0),.int 3 (.ofNat 1),.sint 3 (r1.l.length:Int),.int 3 (.ofNat 0),.int 3 (.ofNat 0),.int 4 (.ofNat 0),.int 4 (.ofNat 0),.int 1 (.ofNat 0),.int 2 (.ofNat 0),.int 3 (.ofNat 0),.int 1 (.ofNat 0),.int 1 (.ofNat 0),.int 1 (.ofNat 0),.int 1 (.ofNat 0),.int 1 (.ofNat 0),.int 1 (.ofNat 0),.int 1 (.ofNat 0),.nilS,.int 1 (.ofNat 0),.str [],.int 1 (.ofNat 0),.int 3 (.ofNat 0),.nilS,.int 1 (.ofNat 0),.int 2 (.ofNat 0),.bool false,.nilS,.nilS,.nilS]]) (mP (aC 232 (p.f.L.length+m1.length)) (ah fun L1:List Fl=>ah fun d1:Nat=>ah fun o1:Nat=>ah fun u1:Nat=>iP (d1≤L1.length∧L1.length≤p.f.L.length+m1.length∧L1.drop d1=p.f.L.drop p.f.a++m1) (K (.tup []) (Fg2 ({p.f with s1:=⟨r1.l,r1.com⟩,L:=L1,a:=d1,o:=o1,cp:=u1}:G2) p1.me p1.c0 p1.c1 (L1.length - d1) p.f.s0.l.length r1.l.length) 24) true)))))) (K (.tup []) (Fg2 ({p.f with s1:=⟨r1.l,r1.com⟩}:G2) p1.me p1.c0 p1.c1 (p.f.L.length - p.f.a) p.f.s0.l.length r1.l.length) 24))))) (iP (p.t.k=4) (mP (aL 1 p.t.fr) (mP (((.int 0 p.f.now):SY)=(.int 0 p.f.now)) (ac (qL [qI 3 p.t.n,qI 3 p.t.c,qY ((.imm p.t.h 18 Ke p.t.l ai))]) (false)))) (mP (False) (true)))) (mP (False) (true))))) (by kernel_rfl) ?_
 dsimp only[kL]at hpre
 obtain⟨hinv,hm,n1,n2,n3⟩:=hpre
 have hI:FInv p.f.s0 _ _ (p.f.L.drop p.f.a):=hinv.1
 obtain⟨a0,a1,a2,a3,⟨b1,c1,d1,e1,f1⟩⟩:=rC hinv
 obtain⟨m1,m2⟩:=hm.flat
 have m3:=hm.ackle hI
 have hks:=hm.ks hI.ks
 have m4:=hm.kind
 simp only[akl,akn]at m1 m2
 have t1:=hm.to_ (j:=0) rfl
 refine iI (fun hc1=> ?_) (fun hc1=> ?_)
 refine iI (fun hc2=> ?_) (fun hc2=> ?_)
 refine aQ (aK ?_)
 refine aG (by simp[qL,qI,qS,qY,aF]) ?_
 exfalso;omega
 refine iI (fun hc3=> ?_) (fun hc3=> ?_)
 refine aQ (aK ?_)
 refine aG (by simp[qL,qI,qS,qY,aF]) ?_
 refine aB (⟨p.f.s0.l,p.f.s0.com,p.f.c0,p.f.c1,p.f.now,p.t.fr,p.t.n,p.t.c,p.t.h,p.t.l⟩:nQ) rfl (by(try dsimp only[pg]);omega) fun r2 hi4=> ?_
 dsimp only[nX]at hi4
 exact DU hK ⟨({p.f with s0:=⟨p.f.s0.l,r2.com⟩,c0:=r2.c0,c1:=r2.c1}:G2)⟩ (by dsimp only[jp]<;>(dsimp only[Uu];first|(exfalso;omega)|(obtain⟨j,j1,j2,j3,j4,j5⟩:=hi4;exact⟨.ack j _ _ 2 (by omega) j1 (by simpa using j2) j3 j4 (by simp) j5,rfl,rfl,a0,by omega⟩)))
 refine cZ ?_
 rfl
 refine iI (fun hc5=> ?_) (fun hc5=> ?_)
 refine iI (fun hc6=> ?_) (fun hc6=> ?_)
 refine aQ (aK ?_)
 refine aG (by simp[qL,qI,qS,qY,aF]) ?_
 refine aB (⟨p.f.s1.l,p.f.s1.com,(0:Int),(0:Int),(1:Int),p.f.now,p.t.fr,p.t.n,p.t.c,p.t.h,p.t.l⟩:nR) rfl (by(try dsimp only[ph]);exact⟨by omega,by assumption,by omega,by omega,by omega,by omega,by omega,by omega,by omega,by omega⟩) fun r1 hi7=> ?_
 dsimp only[sj]at hi7
 refine iI (fun hc8=> ?_) (fun hc8=> ?_)
 refine aQ (aK (cZ ?_))
 refine aH ([⟨(1:Int),p.t.fr,(4:Int),(r1.l.length:Int),(0:Int),(.slice none 0 0),[]⟩]:List Fl) ?_
 refine mI (show bz (([⟨(1:Int),p.t.fr,(4:Int),(r1.l.length:Int),(0:Int),(.slice none 0 0),[]⟩]:List Fl).map cw) [[.int 0 (.ofNat 1),.sint 0 p.t.fr,.int 1 (.ofNat 4),.int 1 (.ofNat 0),.int 1 (.ofNat 0),.int 3 (.ofNat 1),.sint 3 (r1.l.length:Int),.int 3 (.ofNat 0),.int 3 (.ofNat 0),.int 4 (.ofNat 0),.int 4 (.ofNat 0),.int 1 (.ofNat 0),.int 2 (.ofNat 0),.int 3 (.ofNat 0),.int 1 (.ofNat 0),.int 1 (.ofNat 0),.int 1 (.ofNat 0),.int 1 (.ofNat 0),.int 1 (.ofNat 0),.int 1 (.ofNat 0),.int 1 (.ofNat 0),.nilS,.int 1 (.ofNat 0),.str [],.int 1 (.ofNat 0),.int 3 (.ofNat 0),.nilS,.int 1 (.ofNat 0),.int 2 (.ofNat 0),.bool false,.nilS,.nilS,.nilS]] from⟨⟨.inr (.inl ⟨_,_,rfl,rfl⟩),⟨.inl rfl,⟨.inr (.inl ⟨_,_,rfl,rfl⟩),⟨.inl rfl,⟨.inl rfl,⟨.inl rfl,⟨.inl rfl,⟨.inr (.inl ⟨_,_,rfl,rfl⟩),⟨.inl rfl,⟨.inl rfl,⟨.inl rfl,⟨.inl rfl,⟨.inl rfl,⟨.inl rfl,⟨.inl rfl,⟨.inl rfl,⟨.inl rfl,⟨.inl rfl,⟨.inl rfl,⟨.inl rfl,⟨.inl rfl,⟨.inl rfl,⟨.inl rfl,⟨.inl rfl,⟨.inl rfl,⟨.inl rfl,⟨.inl rfl,⟨.inl rfl,⟨.inl rfl,⟨.inl rfl,⟨.inl rfl,⟨.inr (.inr ⟨_,_,_,by decide,rfl,rfl⟩),⟨.inl rfl,trivial⟩⟩⟩⟩⟩⟩⟩⟩⟩⟩⟩⟩⟩⟩⟩⟩⟩⟩⟩⟩⟩⟩⟩⟩⟩⟩⟩⟩⟩⟩⟩⟩⟩,trivial⟩) ?_
 refine mI (by(try dsimp only);first|(simp only[aC,akk,aky,akG];omega)|(simp only[aC,akl,akn];omega)|(simp only[akl,akn]at*;unfold aC;omega)) ?_
 refine aj (fun L1=> ?_)
 refine aj (fun d1=> ?_)
 refine aj (fun o1=> ?_)
 refine aj (fun u1=> ?_)
 refine iI (p:=d1≤L1.length∧L1.length≤p.f.L.length+([⟨(1:Int),p.t.fr,(4:Int),(r1.l.length:Int),(0:Int),(.slice none 0 0),[]⟩]:List Fl).length∧L1.drop d1=p.f.L.drop p.f.a++([⟨(1:Int),p.t.fr,(4:Int),(r1.l.length:Int),(0:Int),(.slice none 0 0),[]⟩]:List Fl)) (fun hi9=> ?_) (fun _=>rfl)
 exact DU hK ⟨({p.f with s1:=⟨r1.l,r1.com⟩,L:=L1,a:=d1,o:=o1,cp:=u1}:G2)⟩ (by dsimp only[jp]<;>(dsimp only[Uu];first|(exfalso;omega)|exact⟨.app 0 _ _ _ (.slice none 0 0) _ (by omega) (by omega) rfl (by assumption) (by first|exact lL (by omega)|exact iD (by omega) (by assumption) jD),rfl,rfl,by first|exact⟨a0,by omega⟩|exact jE (a:=0) (by assumption)⟩))
 exact DU hK ⟨({p.f with s1:=⟨r1.l,r1.com⟩}:G2)⟩ (by dsimp only[jp]<;>(dsimp only[Uu];first|(exfalso;omega)|exact⟨.app 0 _ _ _ (.slice none 0 0) _ (by omega) (by omega) rfl (by assumption) (by first|exact lL (by omega)|exact iD (by omega) (by assumption) jD),rfl,rfl,by first|exact⟨a0,by omega⟩|exact jE (a:=0) (by assumption)⟩))
 refine iI (fun hc10=> ?_) (fun hc10=> ?_)
 refine aQ (aK ?_)
 refine aG (by simp[qL,qI,qS,qY,aF]) ?_
 exfalso;omega
 refine cZ ?_
 rfl
 refine cZ ?_
 rfl
noncomputable def IN:aM:=bn (mF 1 2) (be ud (cm kL CF)) (fun _ _ _ _=>false)
theorem Ra:aX Tryz.prog 29 1 IN:=aD (bi (f:=29) (k:=1) (ay Bz) Vp (by rfl) (by rfl) abf) dT
noncomputable def DI:=aZ Ay 1 IN 29 [(0,4),(1,15)]
theorem DH:aE Tryz.prog DI:=az Ra Bz
def SD:XF:=.mk 45 .none (.pre [.fixg 1 1 0 3,.fixg 1 2 3 2] (.seq (g_ 1 [e_ 0 3 (.box 76 (.t 1))]) (.seq (h_ 19 [p_ 0 4 (f_ 1 3),r_ 1 5 (l_ 4),p_ 2 6 (m_ 0),p_ 3 7 (n_ 6),p_ 4 8 (f_ 0 7),r_ 5 9 (l_ 8),p_ 6 10 (k_ 9),p_ 7 11 (.bin 3 0 (.t 5) (.t 10)),p_ 8 12 (m_ 11),am 9 13 12 true (m_ 0),am 10 14 12 true (n_ 13),am 11 15 12 true (f_ 1 14),aU 12 16 12 true (l_ 15),am 13 17 12 true (f_ 1 3),aU 14 18 12 true (l_ 17),am 15 19 12 true (.ixs 1 (.t 16) (.t 18)),aU 16 20 12 true (l_ 19),am 17 21 12 true (.un 0 (.t 20)),p_ 18 22 (.pick (.t 12) (.t 21) (.c (.bool false)))]) (.cond (.t 22) (h_ 22 [p_ 0 23 (m_ 0),p_ 1 24 (f_ 1 3),r_ 2 25 (l_ 24),p_ 3 26 (m_ 0),p_ 4 27 (n_ 26),p_ 5 28 (f_ 0 27),r_ 6 29 (l_ 28),p_ 7 30 (f_ 1 3),r_ 8 31 (l_ 30),p_ 9 32 (.ixs 1 (.t 29) (.t 31)),r_ 10 33 (l_ 32),p_ 11 34 (m_ 0),p_ 12 35 (n_ 34),p_ 13 36 (f_ 3 35),r_ 14 37 (l_ 36),p_ 15 38 (f_ 0 3),r_ 16 39 (l_ 38),p_ 18 41 (f_ 2 3),r_ 19 42 (.ld true 31 (.t 41)),c_ 17 40 21 [.t 39],a_ 2 25 (l_ 24),a_ 6 29 (l_ 28),a_ 8 31 (l_ 30),a_ 10 33 (l_ 32),a_ 14 37 (l_ 36),a_ 19 42 (.ld true 31 (.t 41)),c_ 20 43 51 [.t 33,.t 37,.t 40,.t 42],a_ 2 25 (l_ 24),c_ 21 44 49 [.t 23,.t 25,.t 43]]) .skip))))
theorem Vo:aW Tryz.prog 29 SD=true:=by kernel_rfl
structure oP where
 f:G3
 t:Fl
structure Nm where
 f:G3
def gp (p:oP) (r:Nm):Prop:=Lo p.f p.t r.f
noncomputable def uc (p:oP):IE:=([.ptr 0 0,.agg [.sy (.int 0 p.t.fr),.sy (.int 0 p.t.to),.sy (.int 1 p.t.k),aa,aa,bt,.sy (.int 3 p.t.n),.sy (.int 3 p.t.c),aw,aI,aI,aa,aJ,aw,aa,aa,aa,aa,aa,aa,aa,.nilS,aa,.str [],aa,aw,.nilS,aa,aJ,.bool false,.nilS,.sy (.imm p.t.h 18 Ke p.t.l ai),.nilS]],(bP p.f (p.f.L.length - p.f.a) p.f.s0.l.length p.f.s1.l.length p.f.s2.l.length),34)
noncomputable def CE (p:oP) (K:KE):Bool:=ah fun r:Nm=>iP (gp p r) (K (.tup []) (bP r.f (r.f.L.length - r.f.a) r.f.s0.l.length r.f.s1.l.length r.f.s2.l.length) 34) true
def kK (p:oP):Prop:=dD p.f∧MsgOk p.f.s0 [p.f.s1,p.f.s2] p.t∧0≤p.f.now∧p.f.now≤1000000∧p.f.L.length≤1000000
theorem sr {p:oP} {K:KE} (hK:CE p K=true) (r:Nm) (h:gp p r):K (.tup []) (bP r.f (r.f.L.length - r.f.a) r.f.s0.l.length r.f.s1.l.length r.f.s2.l.length) 34=true:=aA h (au hK r)
theorem abe (p:oP) (K:KE) (hpre:kK p) (hK:CE p K=true):(aY 1 (bg DI) bp 600 SD (uc p).1 (uc p).2.1 (uc p).2.2 K)=true:=by
 refine Eq.trans (b:=(iP (p.t.to=0) (iP (p.t.k=3) (mP (aL 1 p.t.fr) (mP (((.int 0 p.f.now):SY)=(.int 0 p.f.now)) (ac (qL [qI 3 p.t.n,qI 3 p.t.c,qY ((.imm p.t.h 18 Ke p.t.l ai))]) (false)))) (iP (p.t.k=4) (mP (aL 1 p.t.fr) (mP (((.int 0 p.f.now):SY)=(.int 0 p.f.now)) (ac (qL [qI 3 p.t.n,qI 3 p.t.c,qY ((.imm p.t.h 18 Ke p.t.l ai))]) (bf (([.ptr 0 0,.sy (.int 0 p.f.now),.agg [.sy (.int 1 p.t.fr),bj],.agg [ju,aa,aa,bt,.sy (.int 3 p.t.n),.sy (.int 3 p.t.c),aw,aI,aI,aa,aJ,aw,aa,aa,aa,aa,aa,aa,aa,.nilS,aa,.str [],aa,aw,.nilS,aa,aJ,.bool false,.nilS,.sy (.imm p.t.h 18 Ke p.t.l ai),.nilS]],(dA p.f.s0.l p.f.s0.com p.f.c0 p.f.c1 p.f.c2),10)) vV pf nW fun p3 r3=>K (.tup []) (bP ({p.f with s0:=⟨p3.l,r3.com⟩,c0:=r3.c0,c1:=r3.c1,c2:=r3.c2}:G3) (p.f.L.length - p.f.a) p3.l.length p.f.s1.l.length p.f.s2.l.length) 34)))) (mP (False) (true)))) (iP (p.t.to=1) (iP (p.t.k=3) (mP (aL 1 p.t.fr) (mP (((.int 0 p.f.now):SY)=(.int 0 p.f.now)) (ac (qL [qI 3 p.t.n,qI 3 p.t.c,qY ((.imm p.t.h 18 Ke p.t.l ai))]) (bf (([.ptr 0 0,.sy (.int 0 p.f.now),.agg [.sy (.int 1 p.t.fr),bj],.agg [cu,aa,aa,bt,.sy (.int 3 p.t.n),.sy (.int 3 p.t.c),aw,aI,aI,aa,aJ,aw,aa,aa,aa,aa,aa,aa,aa,.nilS,aa,.str [],aa,aw,.nilS,aa,aJ,.bool false,.nilS,.sy (.imm p.t.h 18 Ke p.t.l ai),.nilS]],(dm p.f.s1.l p.f.s1.com 0 0 0 1),10)) qK jn kM fun p2 r2=>iP (((p.f.L.length - p.f.a:Nat):Int)<(400:Int)) (mP (aL 0 p2.w) (mP (((.psub 3 33 p.f.a (p.f.L.length - p.f.a) p.f.o (some p.f.cp)):SY)=(.psub 3 33 p.f.a (p.f.L.length - p.f.a) p.f.o (some p.f.cp))) (mP (p.f.a+(p.f.L.length - p.f.a)=p.f.L.length) (ax fun m2:List Fl=>mP (bz (m2.map cw) [[.int 0 (.ofNat 1),.sint 0 p2.w,.int 1 (.ofNat 4),.int 1 (.ofNat 0),.int 1 (.ofNat 0),.int 3 (.ofNat 1),.sint 3 (r2.l.length:Int),.int 3 (.ofNat 0),.int 3 (.ofNat 0),.int 4 (.ofNat 0),.int 4 (.ofNat 0),.int 1 (.ofNat 0),.int 2 (.ofNat 0),.int 3 (.ofNat 0),.int 1 (.ofNat 0),.int 1 (.ofNat 0),.int 1 (.ofNat 0),.int 1 (.ofNat 0),.int 1 (.ofNat 0),.int 1 (.ofNat 0),.int 1 (.ofNat 0),.nilS,.int 1 (.ofNat 0),.str [],.int 1 (.ofNat 0),.int 3 (.ofNat 0),.nilS,.int 1 (.ofNat 0),.int 2 (.ofNat 0),.bool false,.nilS,.nilS,.nilS]]) (mP (aC 232 (p.f.L.length+m2.length)) (ah fun L2:List Fl=>ah fun d2:Nat=>ah fun o2:Nat=>ah fun u2:Nat=>iP (d2≤L2.length∧L2.length≤p.f.L.length+m2.length∧L2.drop d2=p.f.L.drop p.f.a++m2) (K (.tup []) (Ln ({p.f with s1:=⟨r2.l,r2.com⟩,L:=L2,a:=d2,o:=o2,cp:=u2}:G3) p2.me p2.c0 p2.c1 p2.c2 2 0 0 0 (L2.length - d2) p.f.s0.l.length r2.l.length p.f.s2.l.length) 34) true)))))) (K (.tup []) (Ln ({p.f with s1:=⟨r2.l,r2.com⟩}:G3) p2.me p2.c0 p2.c1 p2.c2 2 0 0 0 (p.f.L.length - p.f.a) p.f.s0.l.length r2.l.length p.f.s2.l.length) 34))))) (iP (p.t.k=4) (mP (aL 1 p.t.fr) (mP (((.int 0 p.f.now):SY)=(.int 0 p.f.now)) (ac (qL [qI 3 p.t.n,qI 3 p.t.c,qY ((.imm p.t.h 18 Ke p.t.l ai))]) (false)))) (mP (False) (true)))) (iP (p.t.to=2) (iP (p.t.k=3) (mP (aL 1 p.t.fr) (mP (((.int 0 p.f.now):SY)=(.int 0 p.f.now)) (ac (qL [qI 3 p.t.n,qI 3 p.t.c,qY ((.imm p.t.h 18 Ke p.t.l ai))]) (bf (([.ptr 0 0,.sy (.int 0 p.f.now),.agg [.sy (.int 1 p.t.fr),bj],.agg [cu,aa,aa,bt,.sy (.int 3 p.t.n),.sy (.int 3 p.t.c),aw,aI,aI,aa,aJ,aw,aa,aa,aa,aa,aa,aa,aa,.nilS,aa,.str [],aa,aw,.nilS,aa,aJ,.bool false,.nilS,.sy (.imm p.t.h 18 Ke p.t.l ai),.nilS]],(dm p.f.s2.l p.f.s2.com 0 0 0 2),10)) qK jn kM fun p1 r1=>iP (((p.f.L.length - p.f.a:Nat):Int)<(400:Int)) (mP (aL 0 p1.w) (mP (((.psub 3 33 p.f.a (p.f.L.length - p.f.a) p.f.o (some p.f.cp)):SY)=(.psub 3 33 p.f.a (p.f.L.length - p.f.a) p.f.o (some p.f.cp))) (mP (p.f.a+(p.f.L.length - p.f.a)=p.f.L.length) (ax fun m1:List Fl=>mP (bz (m1.map cw) [[.int 0 (.ofNat 2),.sint 0 p1.w,.int 1 (.ofNat 4),.int 1 (.ofNat 0),.int 1 (.ofNat 0),.int 3 (.ofNat 1),.sint 3 (r1.l.length:Int),.int 3 (.ofNat 0),.int 3 (.ofNat 0),.int 4 (.ofNat 0),.int 4 (.ofNat 0),.int 1 (.ofNat 0),.int 2 (.ofNat 0),.int 3 (.ofNat 0),.int 1 (.ofNat 0),.int 1 (.ofNat 0),.int 1 (.ofNat 0),.int 1 (.ofNat 0),.int 1 (.ofNat 0),.int 1 (.ofNat 0),.int 1 (.ofNat 0),.nilS,.int 1 (.ofNat 0),.str [],.int 1 (.ofNat 0),.int 3 (.ofNat 0),.nilS,.int 1 (.ofNat 0),.int 2 (.ofNat 0),.bool false,.nilS,.nilS,.nilS]]) (mP (aC 232 (p.f.L.length+m1.length)) (ah fun L1:List Fl=>ah fun d1:Nat=>ah fun o1:Nat=>ah fun u1:Nat=>iP (d1≤L1.length∧L1.length≤p.f.L.length+m1.length∧L1.drop d1=p.f.L.drop p.f.a++m1) (K (.tup []) (Ln ({p.f with s2:=⟨r1.l,r1.com⟩,L:=L1,a:=d1,o:=o1,cp:=u1}:G3) 1 0 0 0 p1.me p1.c0 p1.c1 p1.c2 (L1.length - d1) p.f.s0.l.length p.f.s1.l.length r1.l.length) 34) true)))))) (K (.tup []) (Ln ({p.f with s2:=⟨r1.l,r1.com⟩}:G3) 1 0 0 0 p1.me p1.c0 p1.c1 p1.c2 (p.f.L.length - p.f.a) p.f.s0.l.length p.f.s1.l.length r1.l.length) 34))))) (iP (p.t.k=4) (mP (aL 1 p.t.fr) (mP (((.int 0 p.f.now):SY)=(.int 0 p.f.now)) (ac (qL [qI 3 p.t.n,qI 3 p.t.c,qY ((.imm p.t.h 18 Ke p.t.l ai))]) (false)))) (mP (False) (true)))) (mP (False) (true)))))) (by kernel_rfl) ?_
 dsimp only[kK]at hpre
 obtain⟨hinv,hm,n1,n2,n3⟩:=hpre
 have hI:FInv p.f.s0 _ _ (p.f.L.drop p.f.a):=hinv.1
 obtain⟨a0,a1,a2,a3,⟨b1,c1,d1,e1,f1⟩,⟨b2,c2,d2,e2,f2⟩⟩:=pv hinv
 obtain⟨m1,m2⟩:=hm.flat
 have m3:=hm.ackle hI
 have hks:=hm.ks hI.ks
 have m4:=hm.kind
 simp only[akl,akn]at m1 m2
 have t1:=hm.to_ (j:=0) rfl
 have t2:=hm.to_ (j:=1) rfl
 refine iI (fun hc1=> ?_) (fun hc1=> ?_)
 refine iI (fun hc2=> ?_) (fun hc2=> ?_)
 refine aQ (aK ?_)
 refine aG (by simp[qL,qI,qS,qY,aF]) ?_
 exfalso;omega
 refine iI (fun hc3=> ?_) (fun hc3=> ?_)
 refine aQ (aK ?_)
 refine aG (by simp[qL,qI,qS,qY,aF]) ?_
 refine aB (⟨p.f.s0.l,p.f.s0.com,p.f.c0,p.f.c1,p.f.c2,p.f.now,p.t.fr,p.t.n,p.t.c,p.t.h,p.t.l⟩:nP) rfl (by(try dsimp only[pf]);omega) fun r3 hi4=> ?_
 dsimp only[nW]at hi4
 exact sr hK ⟨({p.f with s0:=⟨p.f.s0.l,r3.com⟩,c0:=r3.c0,c1:=r3.c1,c2:=r3.c2}:G3)⟩ (by dsimp only[gp]<;>(dsimp only[Lo];first|(exfalso;omega)|(obtain⟨j,j1,j2,j3,j4,j5⟩:=hi4;exact⟨.ack j _ _ 2 (by omega) j1 (by simpa using j2) j3 j4 (by simp) j5,rfl,rfl,a0,by omega⟩)))
 refine cZ ?_
 rfl
 refine iI (fun hc5=> ?_) (fun hc5=> ?_)
 refine iI (fun hc6=> ?_) (fun hc6=> ?_)
 refine aQ (aK ?_)
 refine aG (by simp[qL,qI,qS,qY,aF]) ?_
 refine aB (⟨p.f.s1.l,p.f.s1.com,(0:Int),(0:Int),(0:Int),(1:Int),p.f.now,p.t.fr,p.t.n,p.t.c,p.t.h,p.t.l⟩:lJ) rfl (by(try dsimp only[jn]);exact⟨by omega,by assumption,by omega,by omega,by omega,by omega,by omega,by omega,by omega,by omega⟩) fun r2 hi7=> ?_
 dsimp only[kM]at hi7
 refine iI (fun hc8=> ?_) (fun hc8=> ?_)
 refine aQ (aK (cZ ?_))
 refine aH ([⟨(1:Int),p.t.fr,(4:Int),(r2.l.length:Int),(0:Int),(.slice none 0 0),[]⟩]:List Fl) ?_
 refine mI (show bz (([⟨(1:Int),p.t.fr,(4:Int),(r2.l.length:Int),(0:Int),(.slice none 0 0),[]⟩]:List Fl).map cw) [[.int 0 (.ofNat 1),.sint 0 p.t.fr,.int 1 (.ofNat 4),.int 1 (.ofNat 0),.int 1 (.ofNat 0),.int 3 (.ofNat 1),.sint 3 (r2.l.length:Int),.int 3 (.ofNat 0),.int 3 (.ofNat 0),.int 4 (.ofNat 0),.int 4 (.ofNat 0),.int 1 (.ofNat 0),.int 2 (.ofNat 0),.int 3 (.ofNat 0),.int 1 (.ofNat 0),.int 1 (.ofNat 0),.int 1 (.ofNat 0),.int 1 (.ofNat 0),.int 1 (.ofNat 0),.int 1 (.ofNat 0),.int 1 (.ofNat 0),.nilS,.int 1 (.ofNat 0),.str [],.int 1 (.ofNat 0),.int 3 (.ofNat 0),.nilS,.int 1 (.ofNat 0),.int 2 (.ofNat 0),.bool false,.nilS,.nilS,.nilS]] from⟨⟨.inr (.inl ⟨_,_,rfl,rfl⟩),⟨.inl rfl,⟨.inr (.inl ⟨_,_,rfl,rfl⟩),⟨.inl rfl,⟨.inl rfl,⟨.inl rfl,⟨.inl rfl,⟨.inr (.inl ⟨_,_,rfl,rfl⟩),⟨.inl rfl,⟨.inl rfl,⟨.inl rfl,⟨.inl rfl,⟨.inl rfl,⟨.inl rfl,⟨.inl rfl,⟨.inl rfl,⟨.inl rfl,⟨.inl rfl,⟨.inl rfl,⟨.inl rfl,⟨.inl rfl,⟨.inl rfl,⟨.inl rfl,⟨.inl rfl,⟨.inl rfl,⟨.inl rfl,⟨.inl rfl,⟨.inl rfl,⟨.inl rfl,⟨.inl rfl,⟨.inl rfl,⟨.inr (.inr ⟨_,_,_,by decide,rfl,rfl⟩),⟨.inl rfl,trivial⟩⟩⟩⟩⟩⟩⟩⟩⟩⟩⟩⟩⟩⟩⟩⟩⟩⟩⟩⟩⟩⟩⟩⟩⟩⟩⟩⟩⟩⟩⟩⟩⟩,trivial⟩) ?_
 refine mI (by(try dsimp only);first|(simp only[aC,akk,aky,akG];omega)|(simp only[aC,akl,akn];omega)|(simp only[akl,akn]at*;unfold aC;omega)) ?_
 refine aj (fun L2=> ?_)
 refine aj (fun d2=> ?_)
 refine aj (fun o2=> ?_)
 refine aj (fun u2=> ?_)
 refine iI (p:=d2≤L2.length∧L2.length≤p.f.L.length+([⟨(1:Int),p.t.fr,(4:Int),(r2.l.length:Int),(0:Int),(.slice none 0 0),[]⟩]:List Fl).length∧L2.drop d2=p.f.L.drop p.f.a++([⟨(1:Int),p.t.fr,(4:Int),(r2.l.length:Int),(0:Int),(.slice none 0 0),[]⟩]:List Fl)) (fun hi9=> ?_) (fun _=>rfl)
 exact sr hK ⟨({p.f with s1:=⟨r2.l,r2.com⟩,L:=L2,a:=d2,o:=o2,cp:=u2}:G3)⟩ (by dsimp only[gp]<;>(dsimp only[Lo];first|(exfalso;omega)|exact⟨.app 0 _ _ _ (.slice none 0 0) _ (by omega) (by omega) rfl (by assumption) (by first|exact lL (by omega)|exact iD (by omega) (by assumption) jD),rfl,rfl,by first|exact⟨a0,by omega⟩|exact jE (a:=0) (by assumption)⟩))
 exact sr hK ⟨({p.f with s1:=⟨r2.l,r2.com⟩}:G3)⟩ (by dsimp only[gp]<;>(dsimp only[Lo];first|(exfalso;omega)|exact⟨.app 0 _ _ _ (.slice none 0 0) _ (by omega) (by omega) rfl (by assumption) (by first|exact lL (by omega)|exact iD (by omega) (by assumption) jD),rfl,rfl,by first|exact⟨a0,by omega⟩|exact jE (a:=0) (by assumption)⟩))
 refine iI (fun hc10=> ?_) (fun hc10=> ?_)
 refine aQ (aK ?_)
 refine aG (by simp[qL,qI,qS,qY,aF]) ?_
 exfalso;omega
 refine cZ ?_
 rfl
 refine iI (fun hc11=> ?_) (fun hc11=> ?_)
 refine iI (fun hc12=> ?_) (fun hc12=> ?_)
 refine aQ (aK ?_)
 refine aG (by simp[qL,qI,qS,qY,aF]) ?_
 refine aB (⟨p.f.s2.l,p.f.s2.com,(0:Int),(0:Int),(0:Int),(2:Int),p.f.now,p.t.fr,p.t.n,p.t.c,p.t.h,p.t.l⟩:lJ) rfl (by(try dsimp only[jn]);exact⟨by omega,by assumption,by omega,by omega,by omega,by omega,by omega,by omega,by omega,by omega⟩) fun r1 hi13=> ?_
 dsimp only[kM]at hi13
 refine iI (fun hc14=> ?_) (fun hc14=> ?_)
 refine aQ (aK (cZ ?_))
 refine aH ([⟨(2:Int),p.t.fr,(4:Int),(r1.l.length:Int),(0:Int),(.slice none 0 0),[]⟩]:List Fl) ?_
 refine mI (show bz (([⟨(2:Int),p.t.fr,(4:Int),(r1.l.length:Int),(0:Int),(.slice none 0 0),[]⟩]:List Fl).map cw) [[.int 0 (.ofNat 2),.sint 0 p.t.fr,.int 1 (.ofNat 4),.int 1 (.ofNat 0),.int 1 (.ofNat 0),.int 3 (.ofNat 1),.sint 3 (r1.l.length:Int),.int 3 (.ofNat 0),.int 3 (.ofNat 0),.int 4 (.ofNat 0),.int 4 (.ofNat 0),.int 1 (.ofNat 0),.int 2 (.ofNat 0),.int 3 (.ofNat 0),.int 1 (.ofNat 0),.int 1 (.ofNat 0),.int 1 (.ofNat 0),.int 1 (.ofNat 0),.int 1 (.ofNat 0),.int 1 (.ofNat 0),.int 1 (.ofNat 0),.nilS,.int 1 (.ofNat 0),.str [],.int 1 (.ofNat 0),.int 3 (.ofNat 0),.nilS,.int 1 (.ofNat 0),.int 2 (.ofNat 0),.bool false,.nilS,.nilS,.nilS]] from⟨⟨.inr (.inl ⟨_,_,rfl,rfl⟩),⟨.inl rfl,⟨.inr (.inl ⟨_,_,rfl,rfl⟩),⟨.inl rfl,⟨.inl rfl,⟨.inl rfl,⟨.inl rfl,⟨.inr (.inl ⟨_,_,rfl,rfl⟩),⟨.inl rfl,⟨.inl rfl,⟨.inl rfl,⟨.inl rfl,⟨.inl rfl,⟨.inl rfl,⟨.inl rfl,⟨.inl rfl,⟨.inl rfl,⟨.inl rfl,⟨.inl rfl,⟨.inl rfl,⟨.inl rfl,⟨.inl rfl,⟨.inl rfl,⟨.inl rfl,⟨.inl rfl,⟨.inl rfl,⟨.inl rfl,⟨.inl rfl,⟨.inl rfl,⟨.inl rfl,⟨.inl rfl,⟨.inr (.inr ⟨_,_,_,by decide,rfl,rfl⟩),⟨.inl rfl,trivial⟩⟩⟩⟩⟩⟩⟩⟩⟩⟩⟩⟩⟩⟩⟩⟩⟩⟩⟩⟩⟩⟩⟩⟩⟩⟩⟩⟩⟩⟩⟩⟩⟩,trivial⟩) ?_
 refine mI (by(try dsimp only);first|(simp only[aC,akk,aky,akG];omega)|(simp only[aC,akl,akn];omega)|(simp only[akl,akn]at*;unfold aC;omega)) ?_
 refine aj (fun L1=> ?_)
 refine aj (fun d1=> ?_)
 refine aj (fun o1=> ?_)
 refine aj (fun u1=> ?_)
 refine iI (p:=d1≤L1.length∧L1.length≤p.f.L.length+([⟨(2:Int),p.t.fr,(4:Int),(r1.l.length:Int),(0:Int),(.slice none 0 0),[]⟩]:List Fl).length∧L1.drop d1=p.f.L.drop p.f.a++([⟨(2:Int),p.t.fr,(4:Int),(r1.l.length:Int),(0:Int),(.slice none 0 0),[]⟩]:List Fl)) (fun hi15=> ?_) (fun _=>rfl)
 exact sr hK ⟨({p.f with s2:=⟨r1.l,r1.com⟩,L:=L1,a:=d1,o:=o1,cp:=u1}:G3)⟩ (by dsimp only[gp]<;>(dsimp only[Lo];first|(exfalso;omega)|exact⟨.app 1 _ _ _ (.slice none 0 0) _ (by omega) (by omega) rfl (by assumption) (by first|exact lL (by omega)|exact iD (by omega) (by assumption) jD),rfl,rfl,by first|exact⟨a0,by omega⟩|exact jE (a:=0) (by assumption)⟩))
 exact sr hK ⟨({p.f with s2:=⟨r1.l,r1.com⟩}:G3)⟩ (by dsimp only[gp]<;>(dsimp only[Lo];first|(exfalso;omega)|exact⟨.app 1 _ _ _ (.slice none 0 0) _ (by omega) (by omega) rfl (by assumption) (by first|exact lL (by omega)|exact iD (by omega) (by assumption) jD),rfl,rfl,by first|exact⟨a0,by omega⟩|exact jE (a:=0) (by assumption)⟩))
 refine iI (fun hc16=> ?_) (fun hc16=> ?_)
 refine aQ (aK ?_)
 refine aG (by simp[qL,qI,qS,qY,aF]) ?_
 exfalso;omega
 refine cZ ?_
 rfl
 refine cZ ?_
 rfl
noncomputable def IM:aM:=bn (mF 1 3) (be uc (cm kK CE)) IN
theorem QZ:aX Tryz.prog 29 1 IM:=aD (bi (f:=29) (k:=1) (ay DH) Vo (by rfl) (by rfl) abe) Ra
noncomputable def DG:=aZ DI 1 IM 29 [(0,4),(1,15)]
theorem DF:aE Tryz.prog DG:=az QZ DH
def SC:XF:=.mk 45 .none (.pre [.fixg 1 1 0 4,.fixg 1 2 3 2] (.seq (g_ 1 [e_ 0 3 (.box 76 (.t 1))]) (.seq (h_ 19 [p_ 0 4 (f_ 1 3),r_ 1 5 (l_ 4),p_ 2 6 (m_ 0),p_ 3 7 (n_ 6),p_ 4 8 (f_ 0 7),r_ 5 9 (l_ 8),p_ 6 10 (k_ 9),p_ 7 11 (.bin 3 0 (.t 5) (.t 10)),p_ 8 12 (m_ 11),am 9 13 12 true (m_ 0),am 10 14 12 true (n_ 13),am 11 15 12 true (f_ 1 14),aU 12 16 12 true (l_ 15),am 13 17 12 true (f_ 1 3),aU 14 18 12 true (l_ 17),am 15 19 12 true (.ixs 1 (.t 16) (.t 18)),aU 16 20 12 true (l_ 19),am 17 21 12 true (.un 0 (.t 20)),p_ 18 22 (.pick (.t 12) (.t 21) (.c (.bool false)))]) (.cond (.t 22) (h_ 22 [p_ 0 23 (m_ 0),p_ 1 24 (f_ 1 3),r_ 2 25 (l_ 24),p_ 3 26 (m_ 0),p_ 4 27 (n_ 26),p_ 5 28 (f_ 0 27),r_ 6 29 (l_ 28),p_ 7 30 (f_ 1 3),r_ 8 31 (l_ 30),p_ 9 32 (.ixs 1 (.t 29) (.t 31)),r_ 10 33 (l_ 32),p_ 11 34 (m_ 0),p_ 12 35 (n_ 34),p_ 13 36 (f_ 3 35),r_ 14 37 (l_ 36),p_ 15 38 (f_ 0 3),r_ 16 39 (l_ 38),p_ 18 41 (f_ 2 3),r_ 19 42 (.ld true 31 (.t 41)),c_ 17 40 21 [.t 39],a_ 2 25 (l_ 24),a_ 6 29 (l_ 28),a_ 8 31 (l_ 30),a_ 10 33 (l_ 32),a_ 14 37 (l_ 36),a_ 19 42 (.ld true 31 (.t 41)),c_ 20 43 51 [.t 33,.t 37,.t 40,.t 42],a_ 2 25 (l_ 24),c_ 21 44 49 [.t 23,.t 25,.t 43]]) .skip))))
theorem Vn:aW Tryz.prog 29 SC=true:=by kernel_rfl
structure oO where
 f:G4
 t:Fl
structure Nl where
 f:G4
def eR (p:oO) (r:Nl):Prop:=EL p.f p.t r.f
noncomputable def ub (p:oO):IE:=([.ptr 0 0,.agg [.sy (.int 0 p.t.fr),.sy (.int 0 p.t.to),.sy (.int 1 p.t.k),aa,aa,bt,.sy (.int 3 p.t.n),.sy (.int 3 p.t.c),aw,aI,aI,aa,aJ,aw,aa,aa,aa,aa,aa,aa,aa,.nilS,aa,.str [],aa,aw,.nilS,aa,aJ,.bool false,.nilS,.sy (.imm p.t.h 18 Ke p.t.l ai),.nilS]],(bG p.f (p.f.L.length - p.f.a) p.f.s0.l.length p.f.s1.l.length p.f.s2.l.length p.f.s3.l.length),44)
noncomputable def CD (p:oO) (K:KE):Bool:=ah fun r:Nl=>iP (eR p r) (K (.tup []) (bG r.f (r.f.L.length - r.f.a) r.f.s0.l.length r.f.s1.l.length r.f.s2.l.length r.f.s3.l.length) 44) true
def kJ (p:oO):Prop:=dy p.f∧MsgOk p.f.s0 [p.f.s1,p.f.s2,p.f.s3] p.t∧0≤p.f.now∧p.f.now≤1000000∧p.f.L.length≤1000000
theorem lm {p:oO} {K:KE} (hK:CD p K=true) (r:Nl) (h:eR p r):K (.tup []) (bG r.f (r.f.L.length - r.f.a) r.f.s0.l.length r.f.s1.l.length r.f.s2.l.length r.f.s3.l.length) 44=true:=aA h (au hK r)
theorem abd (p:oO) (K:KE) (hpre:kJ p) (hK:CD p K=true):(aY 1 (bg DG) bp 600 SC (ub p).1 (ub p).2.1 (ub p).2.2 K)=true:=by
 refine Eq.trans (b:=(iP (p.t.to=0) (iP (p.t.k=3) (mP (aL 1 p.t.fr) (mP (((.int 0 p.f.now):SY)=(.int 0 p.f.now)) (ac (qL [qI 3 p.t.n,qI 3 p.t.c,qY ((.imm p.t.h 18 Ke p.t.l ai))]) (false)))) (iP (p.t.k=4) (mP (aL 1 p.t.fr) (mP (((.int 0 p.f.now):SY)=(.int 0 p.f.now)) (ac (qL [qI 3 p.t.n,qI 3 p.t.c,qY ((.imm p.t.h 18 Ke p.t.l ai))]) (bf (([.ptr 0 0,.sy (.int 0 p.f.now),.agg [.sy (.int 1 p.t.fr),bj],.agg [ju,aa,aa,bt,.sy (.int 3 p.t.n),.sy (.int 3 p.t.c),aw,aI,aI,aa,aJ,aw,aa,aa,aa,aa,aa,aa,aa,.nilS,aa,.str [],aa,aw,.nilS,aa,aJ,.bool false,.nilS,.sy (.imm p.t.h 18 Ke p.t.l ai),.nilS]],(dz p.f.s0.l p.f.s0.com p.f.c0 p.f.c1 p.f.c2 p.f.c3),10)) vU pe nV fun p4 r4=>K (.tup []) (bG ({p.f with s0:=⟨p4.l,r4.com⟩,c0:=r4.c0,c1:=r4.c1,c2:=r4.c2,c3:=r4.c3}:G4) (p.f.L.length - p.f.a) p4.l.length p.f.s1.l.length p.f.s2.l.length p.f.s3.l.length) 44)))) (mP (False) (true)))) (iP (p.t.to=1) (iP (p.t.k=3) (mP (aL 1 p.t.fr) (mP (((.int 0 p.f.now):SY)=(.int 0 p.f.now)) (ac (qL [qI 3 p.t.n,qI 3 p.t.c,qY ((.imm p.t.h 18 Ke p.t.l ai))]) (bf (([.ptr 0 0,.sy (.int 0 p.f.now),.agg [.sy (.int 1 p.t.fr),bj],.agg [cu,aa,aa,bt,.sy (.int 3 p.t.n),.sy (.int 3 p.t.c),aw,aI,aI,aa,aJ,aw,aa,aa,aa,aa,aa,aa,aa,.nilS,aa,.str [],aa,aw,.nilS,aa,aJ,.bool false,.nilS,.sy (.imm p.t.h 18 Ke p.t.l ai),.nilS]],(cV p.f.s1.l p.f.s1.com 0 0 0 0 1),10)) nG fE gX fun p3 r3=>iP (((p.f.L.length - p.f.a:Nat):Int)<(400:Int)) (mP (aL 0 p3.w) (mP (((.psub 3 33 p.f.a (p.f.L.length - p.f.a) p.f.o (some p.f.cp)):SY)=(.psub 3 33 p.f.a (p.f.L.length - p.f.a) p.f.o (some p.f.cp))) (mP (p.f.a+(p.f.L.length - p.f.a)=p.f.L.length) (ax fun m3:List Fl=>mP (bz (m3.map cw) [[.int 0 (.ofNat 1),.sint 0 p3.w,.int 1 (.ofNat 4),.int 1 (.ofNat 0),.int 1 (.ofNat 0),.int 3 (.ofNat 1),.sint 3 (r3.l.length:Int),.int 3 (.ofNat 0),.int 3 (.ofNat 0),.int 4 (.ofNat 0),.int 4 (.ofNat 0),.int 1 (.ofNat 0),.int 2 (.ofNat 0),.int 3 (.ofNat 0),.int 1 (.ofNat 0),.int 1 (.ofNat 0),.int 1 (.ofNat 0),.int 1 (.ofNat 0),.int 1 (.ofNat 0),.int 1 (.ofNat 0),.int 1 (.ofNat 0),.nilS,.int 1 (.ofNat 0),.str [],.int 1 (.ofNat 0),.int 3 (.ofNat 0),.nilS,.int 1 (.ofNat 0),.int 2 (.ofNat 0),.bool false,.nilS,.nilS,.nilS]]) (mP (aC 232 (p.f.L.length+m3.length)) (ah fun L3:List Fl=>ah fun d3:Nat=>ah fun o3:Nat=>ah fun u3:Nat=>iP (d3≤L3.length∧L3.length≤p.f.L.length+m3.length∧L3.drop d3=p.f.L.drop p.f.a++m3) (K (.tup []) (zC ({p.f with s1:=⟨r3.l,r3.com⟩,L:=L3,a:=d3,o:=o3,cp:=u3}:G4) p3.me p3.c0 p3.c1 p3.c2 p3.c3 2 0 0 0 0 3 0 0 0 0 (L3.length - d3) p.f.s0.l.length r3.l.length p.f.s2.l.length p.f.s3.l.length) 44) true)))))) (K (.tup []) (zC ({p.f with s1:=⟨r3.l,r3.com⟩}:G4) p3.me p3.c0 p3.c1 p3.c2 p3.c3 2 0 0 0 0 3 0 0 0 0 (p.f.L.length - p.f.a) p.f.s0.l.length r3.l.length p.f.s2.l.length p.f.s3.l.length) 44))))) (iP (p.t.k=4) (mP (aL 1 p.t.fr) (mP (((.int 0 p.f.now):SY)=(.int 0 p.f.now)) (ac (qL [qI 3 p.t.n,qI 3 p.t.c,qY ((.imm p.t.h 18 Ke p.t.l ai))]) (false)))) (mP (False) (true)))) (iP (p.t.to=2) (iP (p.t.k=3) (mP (aL 1 p.t.fr) (mP (((.int 0 p.f.now):SY)=(.int 0 p.f.now)) (ac (qL [qI 3 p.t.n,qI 3 p.t.c,qY ((.imm p.t.h 18 Ke p.t.l ai))]) (bf (([.ptr 0 0,.sy (.int 0 p.f.now),.agg [.sy (.int 1 p.t.fr),bj],.agg [cu,aa,aa,bt,.sy (.int 3 p.t.n),.sy (.int 3 p.t.c),aw,aI,aI,aa,aJ,aw,aa,aa,aa,aa,aa,aa,aa,.nilS,aa,.str [],aa,aw,.nilS,aa,aJ,.bool false,.nilS,.sy (.imm p.t.h 18 Ke p.t.l ai),.nilS]],(cV p.f.s2.l p.f.s2.com 0 0 0 0 2),10)) nG fE gX fun p2 r2=>iP (((p.f.L.length - p.f.a:Nat):Int)<(400:Int)) (mP (aL 0 p2.w) (mP (((.psub 3 33 p.f.a (p.f.L.length - p.f.a) p.f.o (some p.f.cp)):SY)=(.psub 3 33 p.f.a (p.f.L.length - p.f.a) p.f.o (some p.f.cp))) (mP (p.f.a+(p.f.L.length - p.f.a)=p.f.L.length) (ax fun m2:List Fl=>mP (bz (m2.map cw) [[.int 0 (.ofNat 2),.sint 0 p2.w,.int 1 (.ofNat 4),.int 1 (.ofNat 0),.int 1 (.ofNat 0),.int 3 (.ofNat 1),.sint 3 (r2.l.length:Int),.int 3 (.ofNat 0),.int 3 (.ofNat 0),.int 4 (.ofNat 0),.int 4 (.ofNat 0),.int 1 (.ofNat 0),.int 2 (.ofNat 0),.int 3 (.ofNat 0),.int 1 (.ofNat 0),.int 1 (.ofNat 0),.int 1 (.ofNat 0),.int 1 (.ofNat 0),.int 1 (.ofNat 0),.int 1 (.ofNat 0),.int 1 (.ofNat 0),.nilS,.int 1 (.ofNat 0),.str [],.int 1 (.ofNat 0),.int 3 (.ofNat 0),.nilS,.int 1 (.ofNat 0),.int 2 (.ofNat 0),.bool false,.nilS,.nilS,.nilS]]) (mP (aC 232 (p.f.L.length+m2.length)) (ah fun L2:List Fl=>ah fun d2:Nat=>ah fun o2:Nat=>ah fun u2:Nat=>iP (d2≤L2.length∧L2.length≤p.f.L.length+m2.length∧L2.drop d2=p.f.L.drop p.f.a++m2) (K (.tup []) (zC ({p.f with s2:=⟨r2.l,r2.com⟩,L:=L2,a:=d2,o:=o2,cp:=u2}:G4) 1 0 0 0 0 p2.me p2.c0 p2.c1 p2.c2 p2.c3 3 0 0 0 0 (L2.length - d2) p.f.s0.l.length p.f.s1.l.length r2.l.length p.f.s3.l.length) 44) true)))))) (K (.tup []) (zC ({p.f with s2:=⟨r2.l,r2.com⟩}:G4) 1 0 0 0 0 p2.me p2.c0 p2.c1 p2.c2 p2.c3 3 0 0 0 0 (p.f.L.length - p.f.a) p.f.s0.l.length p.f.s1.l.length r2.l.length p.f.s3.l.length) 44))))) (iP (p.t.k=4) (mP (aL 1 p.t.fr) (mP (((.int 0 p.f.now):SY)=(.int 0 p.f.now)) (ac (qL [qI 3 p.t.n,qI 3 p.t.c,qY ((.imm p.t.h 18 Ke p.t.l ai))]) (false)))) (mP (False) (true)))) (iP (p.t.to=3) (iP (p.t.k=3) (mP (aL 1 p.t.fr) (mP (((.int 0 p.f.now):SY)=(.int 0 p.f.now)) (ac (qL [qI 3 p.t.n,qI 3 p.t.c,qY ((.imm p.t.h 18 Ke p.t.l ai))]) (bf (([.ptr 0 0,.sy (.int 0 p.f.now),.agg [.sy (.int 1 p.t.fr),bj],.agg [cu,aa,aa,bt,.sy (.int 3 p.t.n),.sy (.int 3 p.t.c),aw,aI,aI,aa,aJ,aw,aa,aa,aa,aa,aa,aa,aa,.nilS,aa,.str [],aa,aw,.nilS,aa,aJ,.bool false,.nilS,.sy (.imm p.t.h 18 Ke p.t.l ai),.nilS]],(cV p.f.s3.l p.f.s3.com 0 0 0 0 3),10)) nG fE gX fun p1 r1=>iP (((p.f.L.length - p.f.a:Nat):Int)<(400:Int)) (mP (aL 0 p1.w) (mP (((.psub 3 33 p.f.a (p.f.L.length - p.f.a) p.f.o (some p.f.cp)):SY)=(.psub 3 33 p.f.a (p.f.L.length - p.f.a) p.f.o (some p.f.cp))) (mP (p.f.a+(p.f.L.length - p.f.a)=p.f.L.length) (ax fun m1:List Fl=>mP (bz (m1.map cw) [[.int 0 (.ofNat 3),.sint 0 p1.w,.int 1 (.ofNat 4),.int 1 (.ofNat 0),.int 1 (.ofNat 0),.int 3 (.ofNat 1),.sint 3 (r1.l.length:Int),.int 3 (.ofNat 0),.int 3 (.ofNat 0),.int 4 (.ofNat 0),.int 4 (.ofNat 0),.int 1 (.ofNat 0),.int 2 (.ofNat 0),.int 3 (.ofNat 0),.int 1 (.ofNat 0),.int 1 (.ofNat 0),.int 1 (.ofNat 0),.int 1 (.ofNat 0),.int 1 (.ofNat 0),.int 1 (.ofNat 0),.int 1 (.ofNat 0),.nilS,.int 1 (.ofNat 0),.str [],.int 1 (.ofNat 0),.int 3 (.ofNat 0),.nilS,.int 1 (.ofNat 0),.int 2 (.ofNat 0),.bool false,.nilS,.nilS,.nilS]]) (mP (aC 232 (p.f.L.length+m1.length)) (ah fun L1:List Fl=>ah fun d1:Nat=>ah fun o1:Nat=>ah fun u1:Nat=>iP (d1≤L1.length∧L1.length≤p.f.L.length+m1.length∧L1.drop d1=p.f.L.drop p.f.a++m1) (K (.tup []) (zC ({p.f with s3:=⟨r1.l,r1.com⟩,L:=L1,a:=d1,o:=o1,cp:=u1}:G4) 1 0 0 0 0 2 0 0 0 0 p1.me p1.c0 p1.c1 p1.c2 p1.c3 (L1.length - d1) p.f.s0.l.length p.f.s1.l.length p.f.s2.l.length r1.l.length) 44) true)))))) (K (.tup []) (zC ({p.f with s3:=⟨r1.l,r1.com⟩}:G4) 1 0 0 0 0 2 0 0 0 0 p1.me p1.c0 p1.c1 p1.c2 p1.c3 (p.f.L.length - p.f.a) p.f.s0.l.length p.f.s1.l.length p.f.s2.l.length r1.l.length) 44))))) (iP (p.t.k=4) (mP (aL 1 p.t.fr) (mP (((.int 0 p.f.now):SY)=(.int 0 p.f.now)) (ac (qL [qI 3 p.t.n,qI 3 p.t.c,qY ((.imm p.t.h 18 Ke p.t.l ai))]) (false)))) (mP (False) (true)))) (mP (False) (true))))))) (by kernel_rfl) ?_
 dsimp only[kJ]at hpre
 obtain⟨hinv,hm,n1,n2,n3⟩:=hpre
 have hI:FInv p.f.s0 _ _ (p.f.L.drop p.f.a):=hinv.1
 obtain⟨a0,a1,a2,a3,⟨b1,c1,d1,e1,f1⟩,⟨b2,c2,d2,e2,f2⟩,⟨b3,c3,d3,e3,f3⟩⟩:=mU hinv
 obtain⟨m1,m2⟩:=hm.flat
 have m3:=hm.ackle hI
 have hks:=hm.ks hI.ks
 have m4:=hm.kind
 simp only[akl,akn]at m1 m2
 have t1:=hm.to_ (j:=0) rfl
 have t2:=hm.to_ (j:=1) rfl
 have t3:=hm.to_ (j:=2) rfl
 refine iI (fun hc1=> ?_) (fun hc1=> ?_)
 refine iI (fun hc2=> ?_) (fun hc2=> ?_)
 refine aQ (aK ?_)
 refine aG (by simp[qL,qI,qS,qY,aF]) ?_
 exfalso;omega
 refine iI (fun hc3=> ?_) (fun hc3=> ?_)
 refine aQ (aK ?_)
 refine aG (by simp[qL,qI,qS,qY,aF]) ?_
 refine aB (⟨p.f.s0.l,p.f.s0.com,p.f.c0,p.f.c1,p.f.c2,p.f.c3,p.f.now,p.t.fr,p.t.n,p.t.c,p.t.h,p.t.l⟩:nO) rfl (by(try dsimp only[pe]);omega) fun r4 hi4=> ?_
 dsimp only[nV]at hi4
 exact lm hK ⟨({p.f with s0:=⟨p.f.s0.l,r4.com⟩,c0:=r4.c0,c1:=r4.c1,c2:=r4.c2,c3:=r4.c3}:G4)⟩ (by dsimp only[eR]<;>(dsimp only[EL];first|(exfalso;omega)|(obtain⟨j,j1,j2,j3,j4,j5⟩:=hi4;exact⟨.ack j _ _ 3 (by omega) j1 (by simpa using j2) j3 j4 (by simp) j5,rfl,rfl,a0,by omega⟩)))
 refine cZ ?_
 rfl
 refine iI (fun hc5=> ?_) (fun hc5=> ?_)
 refine iI (fun hc6=> ?_) (fun hc6=> ?_)
 refine aQ (aK ?_)
 refine aG (by simp[qL,qI,qS,qY,aF]) ?_
 refine aB (⟨p.f.s1.l,p.f.s1.com,(0:Int),(0:Int),(0:Int),(0:Int),(1:Int),p.f.now,p.t.fr,p.t.n,p.t.c,p.t.h,p.t.l⟩:jC) rfl (by(try dsimp only[fE]);exact⟨by omega,by assumption,by omega,by omega,by omega,by omega,by omega,by omega,by omega,by omega⟩) fun r3 hi7=> ?_
 dsimp only[gX]at hi7
 refine iI (fun hc8=> ?_) (fun hc8=> ?_)
 refine aQ (aK (cZ ?_))
 refine aH ([⟨(1:Int),p.t.fr,(4:Int),(r3.l.length:Int),(0:Int),(.slice none 0 0),[]⟩]:List Fl) ?_
 refine mI (show bz (([⟨(1:Int),p.t.fr,(4:Int),(r3.l.length:Int),(0:Int),(.slice none 0 0),[]⟩]:List Fl).map cw) [[.int 0 (.ofNat 1),.sint 0 p.t.fr,.int 1 (.ofNat 4),.int 1 (.ofNat 0),.int 1 (.ofNat 0),.int 3 (.ofNat 1),.sint 3 (r3.l.length:Int),.int 3 (.ofNat 0),.int 3 (.ofNat 0),.int 4 (.ofNat 0),.int 4 (.ofNat 0),.int 1 (.ofNat 0),.int 2 (.ofNat 0),.int 3 (.ofNat 0),.int 1 (.ofNat 0),.int 1 (.ofNat 0),.int 1 (.ofNat 0),.int 1 (.ofNat 0),.int 1 (.ofNat 0),.int 1 (.ofNat 0),.int 1 (.ofNat 0),.nilS,.int 1 (.ofNat 0),.str [],.int 1 (.ofNat 0),.int 3 (.ofNat 0),.nilS,.int 1 (.ofNat 0),.int 2 (.ofNat 0),.bool false,.nilS,.nilS,.nilS]] from⟨⟨.inr (.inl ⟨_,_,rfl,rfl⟩),⟨.inl rfl,⟨.inr (.inl ⟨_,_,rfl,rfl⟩),⟨.inl rfl,⟨.inl rfl,⟨.inl rfl,⟨.inl rfl,⟨.inr (.inl ⟨_,_,rfl,rfl⟩),⟨.inl rfl,⟨.inl rfl,⟨.inl rfl,⟨.inl rfl,⟨.inl rfl,⟨.inl rfl,⟨.inl rfl,⟨.inl rfl,⟨.inl rfl,⟨.inl rfl,⟨.inl rfl,⟨.inl rfl,⟨.inl rfl,⟨.inl rfl,⟨.inl rfl,⟨.inl rfl,⟨.inl rfl,⟨.inl rfl,⟨.inl rfl,⟨.inl rfl,⟨.inl rfl,⟨.inl rfl,⟨.inl rfl,⟨.inr (.inr ⟨_,_,_,by decide,rfl,rfl⟩),⟨.inl rfl,trivial⟩⟩⟩⟩⟩⟩⟩⟩⟩⟩⟩⟩⟩⟩⟩⟩⟩⟩⟩⟩⟩⟩⟩⟩⟩⟩⟩⟩⟩⟩⟩⟩⟩,trivial⟩) ?_
 refine mI (by(try dsimp only);first|(simp only[aC,akk,aky,akG];omega)|(simp only[aC,akl,akn];omega)|(simp only[akl,akn]at*;unfold aC;omega)) ?_
 refine aj (fun L3=> ?_)
 refine aj (fun d3=> ?_)
 refine aj (fun o3=> ?_)
 refine aj (fun u3=> ?_)
 refine iI (p:=d3≤L3.length∧L3.length≤p.f.L.length+([⟨(1:Int),p.t.fr,(4:Int),(r3.l.length:Int),(0:Int),(.slice none 0 0),[]⟩]:List Fl).length∧L3.drop d3=p.f.L.drop p.f.a++([⟨(1:Int),p.t.fr,(4:Int),(r3.l.length:Int),(0:Int),(.slice none 0 0),[]⟩]:List Fl)) (fun hi9=> ?_) (fun _=>rfl)
 exact lm hK ⟨({p.f with s1:=⟨r3.l,r3.com⟩,L:=L3,a:=d3,o:=o3,cp:=u3}:G4)⟩ (by dsimp only[eR]<;>(dsimp only[EL];first|(exfalso;omega)|exact⟨.app 0 _ _ _ (.slice none 0 0) _ (by omega) (by omega) rfl (by assumption) (by first|exact lL (by omega)|exact iD (by omega) (by assumption) jD),rfl,rfl,by first|exact⟨a0,by omega⟩|exact jE (a:=0) (by assumption)⟩))
 exact lm hK ⟨({p.f with s1:=⟨r3.l,r3.com⟩}:G4)⟩ (by dsimp only[eR]<;>(dsimp only[EL];first|(exfalso;omega)|exact⟨.app 0 _ _ _ (.slice none 0 0) _ (by omega) (by omega) rfl (by assumption) (by first|exact lL (by omega)|exact iD (by omega) (by assumption) jD),rfl,rfl,by first|exact⟨a0,by omega⟩|exact jE (a:=0) (by assumption)⟩))
 refine iI (fun hc10=> ?_) (fun hc10=> ?_)
 refine aQ (aK ?_)
 refine aG (by simp[qL,qI,qS,qY,aF]) ?_
 exfalso;omega
 refine cZ ?_
 rfl
 refine iI (fun hc11=> ?_) (fun hc11=> ?_)
 refine iI (fun hc12=> ?_) (fun hc12=> ?_)
 refine aQ (aK ?_)
 refine aG (by simp[qL,qI,qS,qY,aF]) ?_
 refine aB (⟨p.f.s2.l,p.f.s2.com,(0:Int),(0:Int),(0:Int),(0:Int),(2:Int),p.f.now,p.t.fr,p.t.n,p.t.c,p.t.h,p.t.l⟩:jC) rfl (by(try dsimp only[fE]);exact⟨by omega,by assumption,by omega,by omega,by omega,by omega,by omega,by omega,by omega,by omega⟩) fun r2 hi13=> ?_
 dsimp only[gX]at hi13
 refine iI (fun hc14=> ?_) (fun hc14=> ?_)
 refine aQ (aK (cZ ?_))
 refine aH ([⟨(2:Int),p.t.fr,(4:Int),(r2.l.length:Int),(0:Int),(.slice none 0 0),[]⟩]:List Fl) ?_
 refine mI (show bz (([⟨(2:Int),p.t.fr,(4:Int),(r2.l.length:Int),(0:Int),(.slice none 0 0),[]⟩]:List Fl).map cw) [[.int 0 (.ofNat 2),.sint 0 p.t.fr,.int 1 (.ofNat 4),.int 1 (.ofNat 0),.int 1 (.ofNat 0),.int 3 (.ofNat 1),.sint 3 (r2.l.length:Int),.int 3 (.ofNat 0),.int 3 (.ofNat 0),.int 4 (.ofNat 0),.int 4 (.ofNat 0),.int 1 (.ofNat 0),.int 2 (.ofNat 0),.int 3 (.ofNat 0),.int 1 (.ofNat 0),.int 1 (.ofNat 0),.int 1 (.ofNat 0),.int 1 (.ofNat 0),.int 1 (.ofNat 0),.int 1 (.ofNat 0),.int 1 (.ofNat 0),.nilS,.int 1 (.ofNat 0),.str [],.int 1 (.ofNat 0),.int 3 (.ofNat 0),.nilS,.int 1 (.ofNat 0),.int 2 (.ofNat 0),.bool false,.nilS,.nilS,.nilS]] from⟨⟨.inr (.inl ⟨_,_,rfl,rfl⟩),⟨.inl rfl,⟨.inr (.inl ⟨_,_,rfl,rfl⟩),⟨.inl rfl,⟨.inl rfl,⟨.inl rfl,⟨.inl rfl,⟨.inr (.inl ⟨_,_,rfl,rfl⟩),⟨.inl rfl,⟨.inl rfl,⟨.inl rfl,⟨.inl rfl,⟨.inl rfl,⟨.inl rfl,⟨.inl rfl,⟨.inl rfl,⟨.inl rfl,⟨.inl rfl,⟨.inl rfl,⟨.inl rfl,⟨.inl rfl,⟨.inl rfl,⟨.inl rfl,⟨.inl rfl,⟨.inl rfl,⟨.inl rfl,⟨.inl rfl,⟨.inl rfl,⟨.inl rfl,⟨.inl rfl,⟨.inl rfl,⟨.inr (.inr ⟨_,_,_,by decide,rfl,rfl⟩),⟨.inl rfl,trivial⟩⟩⟩⟩⟩⟩⟩⟩⟩⟩⟩⟩⟩⟩⟩⟩⟩⟩⟩⟩⟩⟩⟩⟩⟩⟩⟩⟩⟩⟩⟩⟩⟩,trivial⟩) ?_
 refine mI (by(try dsimp only);first|(simp only[aC,akk,aky,akG];omega)|(simp only[aC,akl,akn];omega)|(simp only[akl,akn]at*;unfold aC;omega)) ?_
 refine aj (fun L2=> ?_)
 refine aj (fun d2=> ?_)
 refine aj (fun o2=> ?_)
 refine aj (fun u2=> ?_)
 refine iI (p:=d2≤L2.length∧L2.length≤p.f.L.length+([⟨(2:Int),p.t.fr,(4:Int),(r2.l.length:Int),(0:Int),(.slice none 0 0),[]⟩]:List Fl).length∧L2.drop d2=p.f.L.drop p.f.a++([⟨(2:Int),p.t.fr,(4:Int),(r2.l.length:Int),(0:Int),(.slice none 0 0),[]⟩]:List Fl)) (fun hi15=> ?_) (fun _=>rfl)
 exact lm hK ⟨({p.f with s2:=⟨r2.l,r2.com⟩,L:=L2,a:=d2,o:=o2,cp:=u2}:G4)⟩ (by dsimp only[eR]<;>(dsimp only[EL];first|(exfalso;omega)|exact⟨.app 1 _ _ _ (.slice none 0 0) _ (by omega) (by omega) rfl (by assumption) (by first|exact lL (by omega)|exact iD (by omega) (by assumption) jD),rfl,rfl,by first|exact⟨a0,by omega⟩|exact jE (a:=0) (by assumption)⟩))
 exact lm hK ⟨({p.f with s2:=⟨r2.l,r2.com⟩}:G4)⟩ (by dsimp only[eR]<;>(dsimp only[EL];first|(exfalso;omega)|exact⟨.app 1 _ _ _ (.slice none 0 0) _ (by omega) (by omega) rfl (by assumption) (by first|exact lL (by omega)|exact iD (by omega) (by assumption) jD),rfl,rfl,by first|exact⟨a0,by omega⟩|exact jE (a:=0) (by assumption)⟩))
 refine iI (fun hc16=> ?_) (fun hc16=> ?_)
 refine aQ (aK ?_)
 refine aG (by simp[qL,qI,qS,qY,aF]) ?_
 exfalso;omega
 refine cZ ?_
 rfl
 refine iI (fun hc17=> ?_) (fun hc17=> ?_)
 refine iI (fun hc18=> ?_) (fun hc18=> ?_)
 refine aQ (aK ?_)
 refine aG (by simp[qL,qI,qS,qY,aF]) ?_
 refine aB (⟨p.f.s3.l,p.f.s3.com,(0:Int),(0:Int),(0:Int),(0:Int),(3:Int),p.f.now,p.t.fr,p.t.n,p.t.c,p.t.h,p.t.l⟩:jC) rfl (by(try dsimp only[fE]);exact⟨by omega,by assumption,by omega,by omega,by omega,by omega,by omega,by omega,by omega,by omega⟩) fun r1 hi19=> ?_
 dsimp only[gX]at hi19
 refine iI (fun hc20=> ?_) (fun hc20=> ?_)
 refine aQ (aK (cZ ?_))
 refine aH ([⟨(3:Int),p.t.fr,(4:Int),(r1.l.length:Int),(0:Int),(.slice none 0 0),[]⟩]:List Fl) ?_
 refine mI (show bz (([⟨(3:Int),p.t.fr,(4:Int),(r1.l.length:Int),(0:Int),(.slice none 0 0),[]⟩]:List Fl).map cw) [[.int 0 (.ofNat 3),.sint 0 p.t.fr,.int 1 (.ofNat 4),.int 1 (.ofNat 0),.int 1 (.ofNat 0),.int 3 (.ofNat 1),.sint 3 (r1.l.length:Int),.int 3 (.ofNat 0),.int 3 (.ofNat 0),.int 4 (.ofNat 0),.int 4 (.ofNat 0),.int 1 (.ofNat 0),.int 2 (.ofNat 0),.int 3 (.ofNat 0),.int 1 (.ofNat 0),.int 1 (.ofNat 0),.int 1 (.ofNat 0),.int 1 (.ofNat 0),.int 1 (.ofNat 0),.int 1 (.ofNat 0),.int 1 (.ofNat 0),.nilS,.int 1 (.ofNat 0),.str [],.int 1 (.ofNat 0),.int 3 (.ofNat 0),.nilS,.int 1 (.ofNat 0),.int 2 (.ofNat 0),.bool false,.nilS,.nilS,.nilS]] from⟨⟨.inr (.inl ⟨_,_,rfl,rfl⟩),⟨.inl rfl,⟨.inr (.inl ⟨_,_,rfl,rfl⟩),⟨.inl rfl,⟨.inl rfl,⟨.inl rfl,⟨.inl rfl,⟨.inr (.inl ⟨_,_,rfl,rfl⟩),⟨.inl rfl,⟨.inl rfl,⟨.inl rfl,⟨.inl rfl,⟨.inl rfl,⟨.inl rfl,⟨.inl rfl,⟨.inl rfl,⟨.inl rfl,⟨.inl rfl,⟨.inl rfl,⟨.inl rfl,⟨.inl rfl,⟨.inl rfl,⟨.inl rfl,⟨.inl rfl,⟨.inl rfl,⟨.inl rfl,⟨.inl rfl,⟨.inl rfl,⟨.inl rfl,⟨.inl rfl,⟨.inl rfl,⟨.inr (.inr ⟨_,_,_,by decide,rfl,rfl⟩),⟨.inl rfl,trivial⟩⟩⟩⟩⟩⟩⟩⟩⟩⟩⟩⟩⟩⟩⟩⟩⟩⟩⟩⟩⟩⟩⟩⟩⟩⟩⟩⟩⟩⟩⟩⟩⟩,trivial⟩) ?_
 refine mI (by(try dsimp only);first|(simp only[aC,akk,aky,akG];omega)|(simp only[aC,akl,akn];omega)|(simp only[akl,akn]at*;unfold aC;omega)) ?_
 refine aj (fun L1=> ?_)
 refine aj (fun d1=> ?_)
 refine aj (fun o1=> ?_)
 refine aj (fun u1=> ?_)
 refine iI (p:=d1≤L1.length∧L1.length≤p.f.L.length+([⟨(3:Int),p.t.fr,(4:Int),(r1.l.length:Int),(0:Int),(.slice none 0 0),[]⟩]:List Fl).length∧L1.drop d1=p.f.L.drop p.f.a++([⟨(3:Int),p.t.fr,(4:Int),(r1.l.length:Int),(0:Int),(.slice none 0 0),[]⟩]:List Fl)) (fun hi21=> ?_) (fun _=>rfl)
 exact lm hK ⟨({p.f with s3:=⟨r1.l,r1.com⟩,L:=L1,a:=d1,o:=o1,cp:=u1}:G4)⟩ (by dsimp only[eR]<;>(dsimp only[EL];first|(exfalso;omega)|exact⟨.app 2 _ _ _ (.slice none 0 0) _ (by omega) (by omega) rfl (by assumption) (by first|exact lL (by omega)|exact iD (by omega) (by assumption) jD),rfl,rfl,by first|exact⟨a0,by omega⟩|exact jE (a:=0) (by assumption)⟩))
 exact lm hK ⟨({p.f with s3:=⟨r1.l,r1.com⟩}:G4)⟩ (by dsimp only[eR]<;>(dsimp only[EL];first|(exfalso;omega)|exact⟨.app 2 _ _ _ (.slice none 0 0) _ (by omega) (by omega) rfl (by assumption) (by first|exact lL (by omega)|exact iD (by omega) (by assumption) jD),rfl,rfl,by first|exact⟨a0,by omega⟩|exact jE (a:=0) (by assumption)⟩))
 refine iI (fun hc22=> ?_) (fun hc22=> ?_)
 refine aQ (aK ?_)
 refine aG (by simp[qL,qI,qS,qY,aF]) ?_
 exfalso;omega
 refine cZ ?_
 rfl
 refine cZ ?_
 rfl
noncomputable def Tk:aM:=bn (mF 1 4) (be ub (cm kJ CD)) IM
theorem abQ:aX Tryz.prog 29 1 Tk:=aD (bi (f:=29) (k:=1) (ay DF) Vn (by rfl) (by rfl) abd) QZ
noncomputable def DE:=aZ DG 1 Tk 29 [(0,4),(1,15)]
theorem DD:aE Tryz.prog DE:=az abQ DF
noncomputable def xP (us:List AV) (a:Nat):Nat:=match dV us a with
 |some (.int _ (.ofNat z))=>z
 |_=>999
def eH:XF:=.mk 34 .none (.seq (g_ 8 [p_ 0 4 (m_ 0),p_ 1 5 (n_ 4),p_ 2 6 (f_ 3 5),r_ 3 7 (l_ 6),p_ 4 8 (.bin 0 0 (.t 7) (i_ 1)),p_ 5 9 (n_ 4),p_ 6 10 (f_ 3 9),bm 7 (.st 1 (.t 10) (.t 8))]) (.seq (g_ 8 [p_ 0 11 (m_ 0),p_ 1 12 (n_ 11),p_ 2 13 (f_ 1 12),r_ 3 14 (l_ 13),p_ 4 15 (m_ 1),p_ 5 16 (.ixs 1 (.t 14) (.t 15)),r_ 6 17 (l_ 16),p_ 7 18 (.un 0 (.t 17))]) (.cond (.t 18) (h_ 15 [p_ 0 19 (m_ 0),p_ 1 20 (m_ 1),p_ 2 21 (m_ 0),p_ 3 22 (n_ 21),p_ 4 23 (f_ 0 22),r_ 5 24 (l_ 23),p_ 6 25 (m_ 1),p_ 7 26 (.ixs 1 (.t 24) (.t 25)),r_ 8 27 (l_ 26),p_ 9 28 (m_ 0),p_ 10 29 (n_ 28),p_ 11 30 (f_ 3 29),r_ 12 31 (l_ 30),c_ 13 32 50 [.t 27,.t 31],c_ 14 33 49 [.t 19,.t 20,.t 32]]) .skip)))
theorem dO:aW Tryz.prog 28 eH=true:=by kernel_rfl
structure ia where
 f:G1
structure EA where
 f:G1
def fF (p:ia) (r:EA):Prop:=Tk1 p.f r.f
noncomputable def lF (p:ia):IE:=([.ptr 0 0,cE],(cN p.f (p.f.L.length - p.f.a) p.f.s0.l.length),14)
noncomputable def xq (p:ia) (K:KE):Bool:=ah fun r:EA=>iP (fF p r) (K (.tup []) (cN r.f (r.f.L.length - r.f.a) r.f.s0.l.length) 14) true
def fh (p:ia):Prop:=ef p.f∧0≤p.f.now∧p.f.now≤1000000∧p.f.L.length≤1000000
theorem Vt {p:ia} {K:KE} (hK:xq p K=true) (r:EA) (h:fF p r):K (.tup []) (cN r.f (r.f.L.length - r.f.a) r.f.s0.l.length) 14=true:=aA h (au hK r)
theorem Xi (p:ia) (K:KE) (hpre:fh p) (hK:xq p K=true):(aY 1 (bg DE) bp 600 eH (lF p).1 (lF p).2.1 (lF p).2.2 K)=true:=by
 refine Eq.trans (b:=(mP (aL 0 (p.f.now+(1:Int))) (ax fun p1:qR=>mP (([.ptr 0 0,.sy (.int 0 (p.f.now+(1:Int)))],(dI p.f.s0.l p.f.s0.com p.f.c0),10)=vP p1) (mP (oZ p1) (K (.tup []) (cN ({p.f with s0:=⟨p1.l,p1.com⟩,c0:=p1.c0,now:=p.f.now+(1:Int)}:G1) (p.f.L.length - p.f.a) p1.l.length) 14))))) (by kernel_rfl) ?_
 dsimp only[fh]at hpre
 obtain⟨hinv,n1,n2,n3⟩:=hpre
 have hI:FInv p.f.s0 _ _ (p.f.L.drop p.f.a):=hinv.1
 obtain⟨a0,a1,a2,a3⟩:=wF hinv
 refine aQ ?_
 refine aP (⟨p.f.s0.l,p.f.s0.com,p.f.c0,p.f.now+(1:Int)⟩:qR) rfl (by(try dsimp only[oZ]);omega) ?_
 exact Vt hK ⟨({p.f with s0:=⟨p.f.s0.l,p.f.s0.com⟩,c0:=p.f.c0,now:=p.f.now+(1:Int)}:G1)⟩ (by dsimp only[fF]<;>(dsimp only[Tk1];first|(exfalso;omega)|exact⟨[],ajJ,by repeat' (first|exact mJ (by omega)|exact rD (by omega) (by omega)|refine mH (by omega) (by assumption) ?_),rfl,rfl,rfl,rfl,rfl⟩))
noncomputable def Bi:aM:=bn (fun us M=>bC (Nat.beq (ca M 1) 1) (Nat.beq (xP us 1) 0)) (be lF (cm fh xq)) (fun _ _ _ _=>false)
theorem Kc:aX Tryz.prog 28 1 Bi:=aD (bi (f:=28) (k:=1) (ay DD) dO (by rfl) (by rfl) Xi) dT
noncomputable def xN:=aZ DE 1 Bi 28 [(0,4),(1,1)]
theorem yE:aE Tryz.prog xN:=az Kc DD
def KK:XF:=eH
theorem Po:aW Tryz.prog 28 KK=true:=dO
structure hZ where
 f:G2
structure Ez where
 f:G2
def fi (p:hZ) (r:Ez):Prop:=WK p.f r.f
noncomputable def lE (p:hZ):IE:=([.ptr 0 0,cE],(cd p.f (p.f.L.length - p.f.a) p.f.s0.l.length p.f.s1.l.length),24)
noncomputable def xp (p:hZ) (K:KE):Bool:=ah fun r:Ez=>iP (fi p r) (K (.tup []) (cd r.f (r.f.L.length - r.f.a) r.f.s0.l.length r.f.s1.l.length) 24) true
def fg (p:hZ):Prop:=dH p.f∧0≤p.f.now∧p.f.now≤1000000∧p.f.L.length≤1000000
theorem GO {p:hZ} {K:KE} (hK:xp p K=true) (r:Ez) (h:fi p r):K (.tup []) (cd r.f (r.f.L.length - r.f.a) r.f.s0.l.length r.f.s1.l.length) 24=true:=aA h (au hK r)
theorem Xh (p:hZ) (K:KE) (hpre:fg p) (hK:xp p K=true):(aY 1 (bg xN) bp 600 KK (lE p).1 (lE p).2.1 (lE p).2.2 K)=true:=by
 refine Eq.trans (b:=(mP (aL 0 (p.f.now+(1:Int))) (bf (([.ptr 0 0,.sy (.int 0 (p.f.now+(1:Int)))],(dB p.f.s0.l p.f.s0.com p.f.c0 p.f.c1),10)) vN oX rX fun p1 r1=>iP (((p.f.L.length - p.f.a:Nat):Int)<(400:Int)) (mP (((.psub 3 33 p.f.a (p.f.L.length - p.f.a) p.f.o (some p.f.cp)):SY)=(.psub 3 33 p.f.a (p.f.L.length - p.f.a) p.f.o (some p.f.cp))) (mP (p.f.a+(p.f.L.length - p.f.a)=p.f.L.length) (ax fun m1:List Fl=>mP (bz (m1.map cw) [[.int 0 (.ofNat 0),.int 0 (.ofNat 1),.int 1 (.ofNat 3),.int 1 (.ofNat 0),.int 1 (.ofNat 0),.int 3 (.ofNat 1),.sint 3 p1.c1,.sint 3 p1.com,.int 3 (.ofNat 0),.int 4 (.ofNat 0),.int 4 (.ofNat 0),.int 1 (.ofNat 0),.int 2 (.ofNat 0),.int 3 (.ofNat 0),.int 1 (.ofNat 0),.int 1 (.ofNat 0),.int 1 (.ofNat 0),.int 1 (.ofNat 0),.int 1 (.ofNat 0),.int 1 (.ofNat 0),.int 1 (.ofNat 0),.nilS,.int 1 (.ofNat 0),.str [],.int 1 (.ofNat 0),.int 3 (.ofNat 0),.nilS,.int 1 (.ofNat 0),.int 2 (.ofNat 0),.bool false,.nilS,.imm r1.h1 18 Ke r1.e1 ai,.nilS]]) (mP (aC 232 (p.f.L.length+m1.length)) (ah fun L1:List Fl=>ah fun d1:Nat=>ah fun o1:Nat=>ah fun u1:Nat=>iP (d1≤L1.length∧L1.length≤p.f.L.length+m1.length∧L1.drop d1=p.f.L.drop p.f.a++m1) (K (.tup []) (cd ⟨⟨p1.l,p1.com⟩,p.f.s1,p1.c0,p1.c1,L1,d1,o1,u1,p.f.now+(1:Int),p.f.cnt⟩ (L1.length - d1) p1.l.length p.f.s1.l.length) 24) true))))) (K (.tup []) (cd ({p.f with s0:=⟨p1.l,p1.com⟩,c0:=p1.c0,c1:=p1.c1,now:=p.f.now+(1:Int)}:G2) (p.f.L.length - p.f.a) p1.l.length p.f.s1.l.length) 24)))) (by kernel_rfl) ?_
 dsimp only[fg]at hpre
 obtain⟨hinv,n1,n2,n3⟩:=hpre
 have hI:FInv p.f.s0 _ _ (p.f.L.drop p.f.a):=hinv.1
 obtain⟨a0,a1,a2,a3,⟨b1,c1,d1,e1,f1⟩⟩:=rC hinv
 refine aQ ?_
 refine aB (⟨p.f.s0.l,p.f.s0.com,p.f.c0,p.f.c1,p.f.now+(1:Int)⟩:nJ) rfl (by(try dsimp only[oX]);omega) fun r1 hi1=> ?_
 dsimp only[rX]at hi1
 refine iI (fun hc2=> ?_) (fun hc2=> ?_)
 refine aK (cZ ?_)
 refine aH ([⟨(0:Int),(1:Int),(3:Int),p.f.c1,p.f.s0.com,r1.h1,r1.e1⟩]:List Fl) ?_
 refine mI (show bz (([⟨(0:Int),(1:Int),(3:Int),p.f.c1,p.f.s0.com,r1.h1,r1.e1⟩]:List Fl).map cw) [[.int 0 (.ofNat 0),.int 0 (.ofNat 1),.int 1 (.ofNat 3),.int 1 (.ofNat 0),.int 1 (.ofNat 0),.int 3 (.ofNat 1),.sint 3 p.f.c1,.sint 3 p.f.s0.com,.int 3 (.ofNat 0),.int 4 (.ofNat 0),.int 4 (.ofNat 0),.int 1 (.ofNat 0),.int 2 (.ofNat 0),.int 3 (.ofNat 0),.int 1 (.ofNat 0),.int 1 (.ofNat 0),.int 1 (.ofNat 0),.int 1 (.ofNat 0),.int 1 (.ofNat 0),.int 1 (.ofNat 0),.int 1 (.ofNat 0),.nilS,.int 1 (.ofNat 0),.str [],.int 1 (.ofNat 0),.int 3 (.ofNat 0),.nilS,.int 1 (.ofNat 0),.int 2 (.ofNat 0),.bool false,.nilS,.imm r1.h1 18 Ke r1.e1 ai,.nilS]] from⟨⟨.inr (.inl ⟨_,_,rfl,rfl⟩),⟨.inr (.inl ⟨_,_,rfl,rfl⟩),⟨.inr (.inl ⟨_,_,rfl,rfl⟩),⟨.inl rfl,⟨.inl rfl,⟨.inl rfl,⟨.inl rfl,⟨.inl rfl,⟨.inl rfl,⟨.inl rfl,⟨.inl rfl,⟨.inl rfl,⟨.inl rfl,⟨.inl rfl,⟨.inl rfl,⟨.inl rfl,⟨.inl rfl,⟨.inl rfl,⟨.inl rfl,⟨.inl rfl,⟨.inl rfl,⟨.inl rfl,⟨.inl rfl,⟨.inl rfl,⟨.inl rfl,⟨.inl rfl,⟨.inl rfl,⟨.inl rfl,⟨.inl rfl,⟨.inl rfl,⟨.inl rfl,⟨.inl rfl,⟨.inl rfl,trivial⟩⟩⟩⟩⟩⟩⟩⟩⟩⟩⟩⟩⟩⟩⟩⟩⟩⟩⟩⟩⟩⟩⟩⟩⟩⟩⟩⟩⟩⟩⟩⟩⟩,trivial⟩) ?_
 refine mI (by(try dsimp only);first|(simp only[aC,akk,aky,akG];omega)|(simp only[aC,akl,akn];omega)|(simp only[akl,akn]at*;unfold aC;omega)) ?_
 refine aj (fun L1=> ?_)
 refine aj (fun d1=> ?_)
 refine aj (fun o1=> ?_)
 refine aj (fun u1=> ?_)
 refine iI (p:=d1≤L1.length∧L1.length≤p.f.L.length+([⟨(0:Int),(1:Int),(3:Int),p.f.c1,p.f.s0.com,r1.h1,r1.e1⟩]:List Fl).length∧L1.drop d1=p.f.L.drop p.f.a++([⟨(0:Int),(1:Int),(3:Int),p.f.c1,p.f.s0.com,r1.h1,r1.e1⟩]:List Fl)) (fun hi3=> ?_) (fun _=>rfl)
 exact GO hK ⟨⟨⟨p.f.s0.l,p.f.s0.com⟩,p.f.s1,p.f.c0,p.f.c1,L1,d1,o1,u1,p.f.now+(1:Int),p.f.cnt⟩⟩ (by dsimp only[fi]<;>(dsimp only[WK];first|(exfalso;omega)|exact⟨[⟨0,1,3,p.f.c1,p.f.s0.com,r1.h1,r1.e1⟩],adm (by assumption),by repeat' (first|exact mJ (by omega)|exact rD (by omega) (by omega)|refine mH (by omega) (by assumption) ?_),rfl,rfl,rfl,rfl,rfl⟩))
 exact GO hK ⟨({p.f with s0:=⟨p.f.s0.l,p.f.s0.com⟩,c0:=p.f.c0,c1:=p.f.c1,now:=p.f.now+(1:Int)}:G2)⟩ (by dsimp only[fi]<;>(dsimp only[WK];first|(exfalso;omega)|exact⟨[⟨0,1,3,p.f.c1,p.f.s0.com,r1.h1,r1.e1⟩],adm (by assumption),by repeat' (first|exact mJ (by omega)|exact rD (by omega) (by omega)|refine mH (by omega) (by assumption) ?_),rfl,rfl,rfl,rfl,rfl⟩))
noncomputable def Bh:aM:=bn (fun us M=>bC (Nat.beq (ca M 1) 2) (Nat.beq (xP us 1) 0)) (be lE (cm fg xp)) Bi
theorem Kb:aX Tryz.prog 28 1 Bh:=aD (bi (f:=28) (k:=1) (ay yE) Po (by rfl) (by rfl) Xh) Kc
noncomputable def xM:=aZ xN 1 Bh 28 [(0,4),(1,1)]
theorem yD:aE Tryz.prog xM:=az Kb yE
def KJ:XF:=eH
theorem Pn:aW Tryz.prog 28 KJ=true:=dO
structure fU where
 f:G2
noncomputable def lD (p:fU):IE:=([.ptr 0 0,sS],(cd p.f (p.f.L.length - p.f.a) p.f.s0.l.length p.f.s1.l.length),24)
noncomputable def Gn (p:fU) (K:KE):Bool:=K (.tup []) (cd ({p.f with now:=p.f.now+1}:G2) (p.f.L.length - p.f.a) p.f.s0.l.length p.f.s1.l.length) 24
def ff (p:fU):Prop:=dH p.f∧0≤p.f.now∧p.f.now≤1000000∧p.f.L.length≤1000000
theorem Xg (p:fU) (K:KE) (hpre:ff p) (hK:Gn p K=true):(aY 1 (bg xM) bp 600 KJ (lD p).1 (lD p).2.1 (lD p).2.2 K)=true:=by
 refine Eq.trans (b:=(mP (aL 0 (p.f.now+(1:Int))) (ax fun p1:qQ=>mP (([.ptr 0 0,.sy (.int 0 (p.f.now+(1:Int)))],(dJ p.f.s1.l p.f.s1.com 0 0 1),10)=vO p1) (mP (oY p1) (K (.tup []) (Fg2 ({p.f with s1:=⟨p1.l,p1.com⟩,now:=p.f.now+(1:Int)}:G2) p1.me p1.c0 p1.c1 (p.f.L.length - p.f.a) p.f.s0.l.length p1.l.length) 24))))) (by kernel_rfl) ?_
 dsimp only[ff]at hpre
 obtain⟨hinv,n1,n2,n3⟩:=hpre
 have hI:FInv p.f.s0 _ _ (p.f.L.drop p.f.a):=hinv.1
 obtain⟨a0,a1,a2,a3,⟨b1,c1,d1,e1,f1⟩⟩:=rC hinv
 refine aQ ?_
 refine aP (⟨p.f.s1.l,p.f.s1.com,(0:Int),(0:Int),(1:Int),p.f.now+(1:Int)⟩:qQ) rfl (by(try dsimp only[oY]);omega) ?_
 exact hK
noncomputable def Bg:aM:=bn (fun us M=>bC (Nat.beq (ca M 1) 2) (Nat.beq (xP us 1) 1)) (be lD (cm ff Gn)) Bh
theorem Ka:aX Tryz.prog 28 1 Bg:=aD (bi (f:=28) (k:=1) (ay yD) Pn (by rfl) (by rfl) Xg) Kb
noncomputable def xL:=aZ xM 1 Bg 28 [(0,4),(1,1)]
theorem yC:aE Tryz.prog xL:=az Ka yD
def KI:XF:=eH
theorem Pm:aW Tryz.prog 28 KI=true:=dO
structure hX where
 f:G3
structure Ey where
 f:G3
def eE (p:hX) (r:Ey):Prop:=TP p.f r.f
noncomputable def lC (p:hX):IE:=([.ptr 0 0,cE],(bP p.f (p.f.L.length - p.f.a) p.f.s0.l.length p.f.s1.l.length p.f.s2.l.length),34)
noncomputable def xn (p:hX) (K:KE):Bool:=ah fun r:Ey=>iP (eE p r) (K (.tup []) (bP r.f (r.f.L.length - r.f.a) r.f.s0.l.length r.f.s1.l.length r.f.s2.l.length) 34) true
def fe (p:hX):Prop:=dD p.f∧0≤p.f.now∧p.f.now≤1000000∧p.f.L.length≤1000000
theorem xU {p:hX} {K:KE} (hK:xn p K=true) (r:Ey) (h:eE p r):K (.tup []) (bP r.f (r.f.L.length - r.f.a) r.f.s0.l.length r.f.s1.l.length r.f.s2.l.length) 34=true:=aA h (au hK r)
theorem Xf (p:hX) (K:KE) (hpre:fe p) (hK:xn p K=true):(aY 1 (bg xL) bp 600 KI (lC p).1 (lC p).2.1 (lC p).2.2 K)=true:=by
 refine Eq.trans (b:=(mP (aL 0 (p.f.now+(1:Int))) (bf (([.ptr 0 0,.sy (.int 0 (p.f.now+(1:Int)))],(dA p.f.s0.l p.f.s0.com p.f.c0 p.f.c1 p.f.c2),10)) vM oW rW fun p1 r1=>iP (((p.f.L.length - p.f.a:Nat):Int)<(400:Int)) (mP (((.psub 3 33 p.f.a (p.f.L.length - p.f.a) p.f.o (some p.f.cp)):SY)=(.psub 3 33 p.f.a (p.f.L.length - p.f.a) p.f.o (some p.f.cp))) (mP (p.f.a+(p.f.L.length - p.f.a)=p.f.L.length) (ax fun m1:List Fl=>mP (bz (m1.map cw) [[.int 0 (.ofNat 0),.int 0 (.ofNat 1),.int 1 (.ofNat 3),.int 1 (.ofNat 0),.int 1 (.ofNat 0),.int 3 (.ofNat 1),.sint 3 p1.c1,.sint 3 p1.com,.int 3 (.ofNat 0),.int 4 (.ofNat 0),.int 4 (.ofNat 0),.int 1 (.ofNat 0),.int 2 (.ofNat 0),.int 3 (.ofNat 0),.int 1 (.ofNat 0),.int 1 (.ofNat 0),.int 1 (.ofNat 0),.int 1 (.ofNat 0),.int 1 (.ofNat 0),.int 1 (.ofNat 0),.int 1 (.ofNat 0),.nilS,.int 1 (.ofNat 0),.str [],.int 1 (.ofNat 0),.int 3 (.ofNat 0),.nilS,.int 1 (.ofNat 0),.int 2 (.ofNat 0),.bool false,.nilS,.imm r1.h1 18 Ke r1.e1 ai,.nilS]]) (mP (aC 232 (p.f.L.length+m1.length)) (ah fun L1:List Fl=>ah fun d1:Nat=>ah fun o1:Nat=>ah fun u1:Nat=>iP (d1≤L1.length∧L1.length≤p.f.L.length+m1.length∧L1.drop d1=p.f.L.drop p.f.a++m1) (iP (((L1.length - d1:Nat):Int)<(400:Int)) (mP (((.psub 46 33 d1 (L1.length - d1) o1 (some u1)):SY)=(.psub 46 33 d1 (L1.length - d1) o1 (some u1))) (mP (d1+(L1.length - d1)=L1.length) (ax fun m2:List Fl=>mP (bz (m2.map cw) [[.int 0 (.ofNat 0),.int 0 (.ofNat 2),.int 1 (.ofNat 3),.int 1 (.ofNat 0),.int 1 (.ofNat 0),.int 3 (.ofNat 1),.sint 3 p1.c2,.sint 3 p1.com,.int 3 (.ofNat 0),.int 4 (.ofNat 0),.int 4 (.ofNat 0),.int 1 (.ofNat 0),.int 2 (.ofNat 0),.int 3 (.ofNat 0),.int 1 (.ofNat 0),.int 1 (.ofNat 0),.int 1 (.ofNat 0),.int 1 (.ofNat 0),.int 1 (.ofNat 0),.int 1 (.ofNat 0),.int 1 (.ofNat 0),.nilS,.int 1 (.ofNat 0),.str [],.int 1 (.ofNat 0),.int 3 (.ofNat 0),.nilS,.int 1 (.ofNat 0),.int 2 (.ofNat 0),.bool false,.nilS,.imm r1.h2 18 Ke r1.e2 ai,.nilS]]) (mP (aC 232 (L1.length+m2.length)) (ah fun L2:List Fl=>ah fun d2:Nat=>ah fun o2:Nat=>ah fun u2:Nat=>iP (d2≤L2.length∧L2.length≤L1.length+m2.length∧L2.drop d2=L1.drop d1++m2) (K (.tup []) (bP ⟨⟨p1.l,p1.com⟩,p.f.s1,p.f.s2,p1.c0,p1.c1,p1.c2,L2,d2,o2,u2,p.f.now+(1:Int),p.f.cnt⟩ (L2.length - d2) p1.l.length p.f.s1.l.length p.f.s2.l.length) 34) true))))) (K (.tup []) (bP ⟨⟨p1.l,p1.com⟩,p.f.s1,p.f.s2,p1.c0,p1.c1,p1.c2,L1,d1,o1,u1,p.f.now+(1:Int),p.f.cnt⟩ (L1.length - d1) p1.l.length p.f.s1.l.length p.f.s2.l.length) 34)) true))))) (K (.tup []) (bP ({p.f with s0:=⟨p1.l,p1.com⟩,c0:=p1.c0,c1:=p1.c1,c2:=p1.c2,now:=p.f.now+(1:Int)}:G3) (p.f.L.length - p.f.a) p1.l.length p.f.s1.l.length p.f.s2.l.length) 34)))) (by kernel_rfl) ?_
 dsimp only[fe]at hpre
 obtain⟨hinv,n1,n2,n3⟩:=hpre
 have hI:FInv p.f.s0 _ _ (p.f.L.drop p.f.a):=hinv.1
 obtain⟨a0,a1,a2,a3,⟨b1,c1,d1,e1,f1⟩,⟨b2,c2,d2,e2,f2⟩⟩:=pv hinv
 refine aQ ?_
 refine aB (⟨p.f.s0.l,p.f.s0.com,p.f.c0,p.f.c1,p.f.c2,p.f.now+(1:Int)⟩:nI) rfl (by(try dsimp only[oW]);omega) fun r1 hi1=> ?_
 dsimp only[rW]at hi1
 refine iI (fun hc2=> ?_) (fun hc2=> ?_)
 refine aK (cZ ?_)
 refine aH ([⟨(0:Int),(1:Int),(3:Int),p.f.c1,p.f.s0.com,r1.h1,r1.e1⟩]:List Fl) ?_
 refine mI (show bz (([⟨(0:Int),(1:Int),(3:Int),p.f.c1,p.f.s0.com,r1.h1,r1.e1⟩]:List Fl).map cw) [[.int 0 (.ofNat 0),.int 0 (.ofNat 1),.int 1 (.ofNat 3),.int 1 (.ofNat 0),.int 1 (.ofNat 0),.int 3 (.ofNat 1),.sint 3 p.f.c1,.sint 3 p.f.s0.com,.int 3 (.ofNat 0),.int 4 (.ofNat 0),.int 4 (.ofNat 0),.int 1 (.ofNat 0),.int 2 (.ofNat 0),.int 3 (.ofNat 0),.int 1 (.ofNat 0),.int 1 (.ofNat 0),.int 1 (.ofNat 0),.int 1 (.ofNat 0),.int 1 (.ofNat 0),.int 1 (.ofNat 0),.int 1 (.ofNat 0),.nilS,.int 1 (.ofNat 0),.str [],.int 1 (.ofNat 0),.int 3 (.ofNat 0),.nilS,.int 1 (.ofNat 0),.int 2 (.ofNat 0),.bool false,.nilS,.imm r1.h1 18 Ke r1.e1 ai,.nilS]] from⟨⟨.inr (.inl ⟨_,_,rfl,rfl⟩),⟨.inr (.inl ⟨_,_,rfl,rfl⟩),⟨.inr (.inl ⟨_,_,rfl,rfl⟩),⟨.inl rfl,⟨.inl rfl,⟨.inl rfl,⟨.inl rfl,⟨.inl rfl,⟨.inl rfl,⟨.inl rfl,⟨.inl rfl,⟨.inl rfl,⟨.inl rfl,⟨.inl rfl,⟨.inl rfl,⟨.inl rfl,⟨.inl rfl,⟨.inl rfl,⟨.inl rfl,⟨.inl rfl,⟨.inl rfl,⟨.inl rfl,⟨.inl rfl,⟨.inl rfl,⟨.inl rfl,⟨.inl rfl,⟨.inl rfl,⟨.inl rfl,⟨.inl rfl,⟨.inl rfl,⟨.inl rfl,⟨.inl rfl,⟨.inl rfl,trivial⟩⟩⟩⟩⟩⟩⟩⟩⟩⟩⟩⟩⟩⟩⟩⟩⟩⟩⟩⟩⟩⟩⟩⟩⟩⟩⟩⟩⟩⟩⟩⟩⟩,trivial⟩) ?_
 refine mI (by(try dsimp only);first|(simp only[aC,akk,aky,akG];omega)|(simp only[aC,akl,akn];omega)|(simp only[akl,akn]at*;unfold aC;omega)) ?_
 refine aj (fun L1=> ?_)
 refine aj (fun d1=> ?_)
 refine aj (fun o1=> ?_)
 refine aj (fun u1=> ?_)
 refine iI (p:=d1≤L1.length∧L1.length≤p.f.L.length+([⟨(0:Int),(1:Int),(3:Int),p.f.c1,p.f.s0.com,r1.h1,r1.e1⟩]:List Fl).length∧L1.drop d1=p.f.L.drop p.f.a++([⟨(0:Int),(1:Int),(3:Int),p.f.c1,p.f.s0.com,r1.h1,r1.e1⟩]:List Fl)) (fun hi3=> ?_) (fun _=>rfl)
 refine iI (fun hc4=> ?_) (fun hc4=> ?_)
 refine aK (cZ ?_)
 refine aH ([⟨(0:Int),(2:Int),(3:Int),p.f.c2,p.f.s0.com,r1.h2,r1.e2⟩]:List Fl) ?_
 refine mI (show bz (([⟨(0:Int),(2:Int),(3:Int),p.f.c2,p.f.s0.com,r1.h2,r1.e2⟩]:List Fl).map cw) [[.int 0 (.ofNat 0),.int 0 (.ofNat 2),.int 1 (.ofNat 3),.int 1 (.ofNat 0),.int 1 (.ofNat 0),.int 3 (.ofNat 1),.sint 3 p.f.c2,.sint 3 p.f.s0.com,.int 3 (.ofNat 0),.int 4 (.ofNat 0),.int 4 (.ofNat 0),.int 1 (.ofNat 0),.int 2 (.ofNat 0),.int 3 (.ofNat 0),.int 1 (.ofNat 0),.int 1 (.ofNat 0),.int 1 (.ofNat 0),.int 1 (.ofNat 0),.int 1 (.ofNat 0),.int 1 (.ofNat 0),.int 1 (.ofNat 0),.nilS,.int 1 (.ofNat 0),.str [],.int 1 (.ofNat 0),.int 3 (.ofNat 0),.nilS,.int 1 (.ofNat 0),.int 2 (.ofNat 0),.bool false,.nilS,.imm r1.h2 18 Ke r1.e2 ai,.nilS]] from⟨⟨.inr (.inl ⟨_,_,rfl,rfl⟩),⟨.inr (.inl ⟨_,_,rfl,rfl⟩),⟨.inr (.inl ⟨_,_,rfl,rfl⟩),⟨.inl rfl,⟨.inl rfl,⟨.inl rfl,⟨.inl rfl,⟨.inl rfl,⟨.inl rfl,⟨.inl rfl,⟨.inl rfl,⟨.inl rfl,⟨.inl rfl,⟨.inl rfl,⟨.inl rfl,⟨.inl rfl,⟨.inl rfl,⟨.inl rfl,⟨.inl rfl,⟨.inl rfl,⟨.inl rfl,⟨.inl rfl,⟨.inl rfl,⟨.inl rfl,⟨.inl rfl,⟨.inl rfl,⟨.inl rfl,⟨.inl rfl,⟨.inl rfl,⟨.inl rfl,⟨.inl rfl,⟨.inl rfl,⟨.inl rfl,trivial⟩⟩⟩⟩⟩⟩⟩⟩⟩⟩⟩⟩⟩⟩⟩⟩⟩⟩⟩⟩⟩⟩⟩⟩⟩⟩⟩⟩⟩⟩⟩⟩⟩,trivial⟩) ?_
 refine mI (by(try dsimp only);first|(simp only[aC,akk,aky,akG];omega)|(simp only[aC,akl,akn];omega)|(simp only[akl,akn]at*;unfold aC;omega)) ?_
 refine aj (fun L2=> ?_)
 refine aj (fun d2=> ?_)
 refine aj (fun o2=> ?_)
 refine aj (fun u2=> ?_)
 refine iI (p:=d2≤L2.length∧L2.length≤L1.length+([⟨(0:Int),(2:Int),(3:Int),p.f.c2,p.f.s0.com,r1.h2,r1.e2⟩]:List Fl).length∧L2.drop d2=L1.drop d1++([⟨(0:Int),(2:Int),(3:Int),p.f.c2,p.f.s0.com,r1.h2,r1.e2⟩]:List Fl)) (fun hi5=> ?_) (fun _=>rfl)
 exact xU hK ⟨⟨⟨p.f.s0.l,p.f.s0.com⟩,p.f.s1,p.f.s2,p.f.c0,p.f.c1,p.f.c2,L2,d2,o2,u2,p.f.now+(1:Int),p.f.cnt⟩⟩ (by dsimp only[eE]<;>(dsimp only[TP];first|(exfalso;omega)|exact⟨[⟨0,1,3,p.f.c1,p.f.s0.com,r1.h1,r1.e1⟩,⟨0,2,3,p.f.c2,p.f.s0.com,r1.h2,r1.e2⟩],Yw (by assumption),by repeat' (first|exact mJ (by omega)|exact rD (by omega) (by omega)|refine mH (by omega) (by assumption) ?_),rfl,rfl,rfl,rfl,rfl⟩))
 exact xU hK ⟨⟨⟨p.f.s0.l,p.f.s0.com⟩,p.f.s1,p.f.s2,p.f.c0,p.f.c1,p.f.c2,L1,d1,o1,u1,p.f.now+(1:Int),p.f.cnt⟩⟩ (by dsimp only[eE]<;>(dsimp only[TP];first|(exfalso;omega)|exact⟨[⟨0,1,3,p.f.c1,p.f.s0.com,r1.h1,r1.e1⟩,⟨0,2,3,p.f.c2,p.f.s0.com,r1.h2,r1.e2⟩],Yw (by assumption),by repeat' (first|exact mJ (by omega)|exact rD (by omega) (by omega)|refine mH (by omega) (by assumption) ?_),rfl,rfl,rfl,rfl,rfl⟩))
 exact xU hK ⟨({p.f with s0:=⟨p.f.s0.l,p.f.s0.com⟩,c0:=p.f.c0,c1:=p.f.c1,c2:=p.f.c2,now:=p.f.now+(1:Int)}:G3)⟩ (by dsimp only[eE]<;>(dsimp only[TP];first|(exfalso;omega)|exact⟨[⟨0,1,3,p.f.c1,p.f.s0.com,r1.h1,r1.e1⟩,⟨0,2,3,p.f.c2,p.f.s0.com,r1.h2,r1.e2⟩],Yw (by assumption),by repeat' (first|exact mJ (by omega)|exact rD (by omega) (by omega)|refine mH (by omega) (by assumption) ?_),rfl,rfl,rfl,rfl,rfl⟩))
noncomputable def Bf:aM:=bn (fun us M=>bC (Nat.beq (ca M 1) 3) (Nat.beq (xP us 1) 0)) (be lC (cm fe xn)) Bg
theorem JZ:aX Tryz.prog 28 1 Bf:=aD (bi (f:=28) (k:=1) (ay yC) Pm (by rfl) (by rfl) Xf) Ka
noncomputable def xK:=aZ xL 1 Bf 28 [(0,4),(1,1)]
theorem yB:aE Tryz.prog xK:=az JZ yC
def KH:XF:=eH
theorem Pk:aW Tryz.prog 28 KH=true:=dO
structure fT where
 f:G3
noncomputable def lB (p:fT):IE:=([.ptr 0 0,sS],(bP p.f (p.f.L.length - p.f.a) p.f.s0.l.length p.f.s1.l.length p.f.s2.l.length),34)
noncomputable def Gm (p:fT) (K:KE):Bool:=K (.tup []) (bP ({p.f with now:=p.f.now+1}:G3) (p.f.L.length - p.f.a) p.f.s0.l.length p.f.s1.l.length p.f.s2.l.length) 34
def fc (p:fT):Prop:=dD p.f∧0≤p.f.now∧p.f.now≤1000000∧p.f.L.length≤1000000
theorem Xe (p:fT) (K:KE) (hpre:fc p) (hK:Gm p K=true):(aY 1 (bg xK) bp 600 KH (lB p).1 (lB p).2.1 (lB p).2.2 K)=true:=by
 refine Eq.trans (b:=(mP (aL 0 (p.f.now+(1:Int))) (ax fun p1:lH=>mP (([.ptr 0 0,.sy (.int 0 (p.f.now+(1:Int)))],(dm p.f.s1.l p.f.s1.com 0 0 0 1),10)=qG p1) (mP (jl p1) (K (.tup []) (Ln ({p.f with s1:=⟨p1.l,p1.com⟩,now:=p.f.now+(1:Int)}:G3) p1.me p1.c0 p1.c1 p1.c2 2 0 0 0 (p.f.L.length - p.f.a) p.f.s0.l.length p1.l.length p.f.s2.l.length) 34))))) (by kernel_rfl) ?_
 dsimp only[fc]at hpre
 obtain⟨hinv,n1,n2,n3⟩:=hpre
 have hI:FInv p.f.s0 _ _ (p.f.L.drop p.f.a):=hinv.1
 obtain⟨a0,a1,a2,a3,⟨b1,c1,d1,e1,f1⟩,⟨b2,c2,d2,e2,f2⟩⟩:=pv hinv
 refine aQ ?_
 refine aP (⟨p.f.s1.l,p.f.s1.com,(0:Int),(0:Int),(0:Int),(1:Int),p.f.now+(1:Int)⟩:lH) rfl (by(try dsimp only[jl]);omega) ?_
 exact hK
noncomputable def Be:aM:=bn (fun us M=>bC (Nat.beq (ca M 1) 3) (Nat.beq (xP us 1) 1)) (be lB (cm fc Gm)) Bf
theorem JY:aX Tryz.prog 28 1 Be:=aD (bi (f:=28) (k:=1) (ay yB) Pk (by rfl) (by rfl) Xe) JZ
noncomputable def xJ:=aZ xK 1 Be 28 [(0,4),(1,1)]
theorem yA:aE Tryz.prog xJ:=az JY yB
def KG:XF:=eH
theorem Pj:aW Tryz.prog 28 KG=true:=dO
structure fS where
 f:G3
noncomputable def lA (p:fS):IE:=([.ptr 0 0,nw],(bP p.f (p.f.L.length - p.f.a) p.f.s0.l.length p.f.s1.l.length p.f.s2.l.length),34)
noncomputable def Gl (p:fS) (K:KE):Bool:=K (.tup []) (bP ({p.f with now:=p.f.now+1}:G3) (p.f.L.length - p.f.a) p.f.s0.l.length p.f.s1.l.length p.f.s2.l.length) 34
def fb (p:fS):Prop:=dD p.f∧0≤p.f.now∧p.f.now≤1000000∧p.f.L.length≤1000000
theorem Xd (p:fS) (K:KE) (hpre:fb p) (hK:Gl p K=true):(aY 1 (bg xJ) bp 600 KG (lA p).1 (lA p).2.1 (lA p).2.2 K)=true:=by
 refine Eq.trans (b:=(mP (aL 0 (p.f.now+(1:Int))) (ax fun p1:lH=>mP (([.ptr 0 0,.sy (.int 0 (p.f.now+(1:Int)))],(dm p.f.s2.l p.f.s2.com 0 0 0 2),10)=qG p1) (mP (jl p1) (K (.tup []) (Ln ({p.f with s2:=⟨p1.l,p1.com⟩,now:=p.f.now+(1:Int)}:G3) 1 0 0 0 p1.me p1.c0 p1.c1 p1.c2 (p.f.L.length - p.f.a) p.f.s0.l.length p.f.s1.l.length p1.l.length) 34))))) (by kernel_rfl) ?_
 dsimp only[fb]at hpre
 obtain⟨hinv,n1,n2,n3⟩:=hpre
 have hI:FInv p.f.s0 _ _ (p.f.L.drop p.f.a):=hinv.1
 obtain⟨a0,a1,a2,a3,⟨b1,c1,d1,e1,f1⟩,⟨b2,c2,d2,e2,f2⟩⟩:=pv hinv
 refine aQ ?_
 refine aP (⟨p.f.s2.l,p.f.s2.com,(0:Int),(0:Int),(0:Int),(2:Int),p.f.now+(1:Int)⟩:lH) rfl (by(try dsimp only[jl]);omega) ?_
 exact hK
noncomputable def Bd:aM:=bn (fun us M=>bC (Nat.beq (ca M 1) 3) (Nat.beq (xP us 1) 2)) (be lA (cm fb Gl)) Be
theorem JX:aX Tryz.prog 28 1 Bd:=aD (bi (f:=28) (k:=1) (ay yA) Pj (by rfl) (by rfl) Xd) JY
noncomputable def xI:=aZ xJ 1 Bd 28 [(0,4),(1,1)]
theorem yz:aE Tryz.prog xI:=az JX yA
def KF:XF:=eH
theorem Pi:aW Tryz.prog 28 KF=true:=dO
structure hU where
 f:G4
structure Ex where
 f:G4
def eg (p:hU) (r:Ex):Prop:=OT p.f r.f
noncomputable def lz (p:hU):IE:=([.ptr 0 0,cE],(bG p.f (p.f.L.length - p.f.a) p.f.s0.l.length p.f.s1.l.length p.f.s2.l.length p.f.s3.l.length),44)
noncomputable def xj (p:hU) (K:KE):Bool:=ah fun r:Ex=>iP (eg p r) (K (.tup []) (bG r.f (r.f.L.length - r.f.a) r.f.s0.l.length r.f.s1.l.length r.f.s2.l.length r.f.s3.l.length) 44) true
def eZ (p:hU):Prop:=dy p.f∧0≤p.f.now∧p.f.now≤1000000∧p.f.L.length≤1000000
theorem rB {p:hU} {K:KE} (hK:xj p K=true) (r:Ex) (h:eg p r):K (.tup []) (bG r.f (r.f.L.length - r.f.a) r.f.s0.l.length r.f.s1.l.length r.f.s2.l.length r.f.s3.l.length) 44=true:=aA h (au hK r)
theorem Xc (p:hU) (K:KE) (hpre:eZ p) (hK:xj p K=true):(aY 1 (bg xI) bp 600 KF (lz p).1 (lz p).2.1 (lz p).2.2 K)=true:=by
 refine Eq.trans (b:=(mP (aL 0 (p.f.now+(1:Int))) (bf (([.ptr 0 0,.sy (.int 0 (p.f.now+(1:Int)))],(dz p.f.s0.l p.f.s0.com p.f.c0 p.f.c1 p.f.c2 p.f.c3),10)) vL oV rV fun p1 r1=>iP (((p.f.L.length - p.f.a:Nat):Int)<(400:Int)) (mP (((.psub 3 33 p.f.a (p.f.L.length - p.f.a) p.f.o (some p.f.cp)):SY)=(.psub 3 33 p.f.a (p.f.L.length - p.f.a) p.f.o (some p.f.cp))) (mP (p.f.a+(p.f.L.length - p.f.a)=p.f.L.length) (ax fun m1:List Fl=>mP (bz (m1.map cw) [[.int 0 (.ofNat 0),.int 0 (.ofNat 1),.int 1 (.ofNat 3),.int 1 (.ofNat 0),.int 1 (.ofNat 0),.int 3 (.ofNat 1),.sint 3 p1.c1,.sint 3 p1.com,.int 3 (.ofNat 0),.int 4 (.ofNat 0),.int 4 (.ofNat 0),.int 1 (.ofNat 0),.int 2 (.ofNat 0),.int 3 (.ofNat 0),.int 1 (.ofNat 0),.int 1 (.ofNat 0),.int 1 (.ofNat 0),.int 1 (.ofNat 0),.int 1 (.ofNat 0),.int 1 (.ofNat 0),.int 1 (.ofNat 0),.nilS,.int 1 (.ofNat 0),.str [],.int 1 (.ofNat 0),.int 3 (.ofNat 0),.nilS,.int 1 (.ofNat 0),.int 2 (.ofNat 0),.bool false,.nilS,.imm r1.h1 18 Ke r1.e1 ai,.nilS]]) (mP (aC 232 (p.f.L.length+m1.length)) (ah fun L1:List Fl=>ah fun d1:Nat=>ah fun o1:Nat=>ah fun u1:Nat=>iP (d1≤L1.length∧L1.length≤p.f.L.length+m1.length∧L1.drop d1=p.f.L.drop p.f.a++m1) (iP (((L1.length - d1:Nat):Int)<(400:Int)) (mP (((.psub 56 33 d1 (L1.length - d1) o1 (some u1)):SY)=(.psub 56 33 d1 (L1.length - d1) o1 (some u1))) (mP (d1+(L1.length - d1)=L1.length) (ax fun m2:List Fl=>mP (bz (m2.map cw) [[.int 0 (.ofNat 0),.int 0 (.ofNat 2),.int 1 (.ofNat 3),.int 1 (.ofNat 0),.int 1 (.ofNat 0),.int 3 (.ofNat 1),.sint 3 p1.c2,.sint 3 p1.com,.int 3 (.ofNat 0),.int 4 (.ofNat 0),.int 4 (.ofNat 0),.int 1 (.ofNat 0),.int 2 (.ofNat 0),.int 3 (.ofNat 0),.int 1 (.ofNat 0),.int 1 (.ofNat 0),.int 1 (.ofNat 0),.int 1 (.ofNat 0),.int 1 (.ofNat 0),.int 1 (.ofNat 0),.int 1 (.ofNat 0),.nilS,.int 1 (.ofNat 0),.str [],.int 1 (.ofNat 0),.int 3 (.ofNat 0),.nilS,.int 1 (.ofNat 0),.int 2 (.ofNat 0),.bool false,.nilS,.imm r1.h2 18 Ke r1.e2 ai,.nilS]]) (mP (aC 232 (L1.length+m2.length)) (ah fun L2:List Fl=>ah fun d2:Nat=>ah fun o2:Nat=>ah fun u2:Nat=>iP (d2≤L2.length∧L2.length≤L1.length+m2.length∧L2.drop d2=L1.drop d1++m2) (iP (((L2.length - d2:Nat):Int)<(400:Int)) (mP (((.psub 58 33 d2 (L2.length - d2) o2 (some u2)):SY)=(.psub 58 33 d2 (L2.length - d2) o2 (some u2))) (mP (d2+(L2.length - d2)=L2.length) (ax fun m3:List Fl=>mP (bz (m3.map cw) [[.int 0 (.ofNat 0),.int 0 (.ofNat 3),.int 1 (.ofNat 3),.int 1 (.ofNat 0),.int 1 (.ofNat 0),.int 3 (.ofNat 1),.sint 3 p1.c3,.sint 3 p1.com,.int 3 (.ofNat 0),.int 4 (.ofNat 0),.int 4 (.ofNat 0),.int 1 (.ofNat 0),.int 2 (.ofNat 0),.int 3 (.ofNat 0),.int 1 (.ofNat 0),.int 1 (.ofNat 0),.int 1 (.ofNat 0),.int 1 (.ofNat 0),.int 1 (.ofNat 0),.int 1 (.ofNat 0),.int 1 (.ofNat 0),.nilS,.int 1 (.ofNat 0),.str [],.int 1 (.ofNat 0),.int 3 (.ofNat 0),.nilS,.int 1 (.ofNat 0),.int 2 (.ofNat 0),.bool false,.nilS,.imm r1.h3 18 Ke r1.e3 ai,.nilS]]) (mP (aC 232 (L2.length+m3.length)) (ah fun L3:List Fl=>ah fun d3:Nat=>ah fun o3:Nat=>ah fun u3:Nat=>iP (d3≤L3.length∧L3.length≤L2.length+m3.length∧L3.drop d3=L2.drop d2++m3) (K (.tup []) (bG ⟨⟨p1.l,p1.com⟩,p.f.s1,p.f.s2,p.f.s3,p1.c0,p1.c1,p1.c2,p1.c3,L3,d3,o3,u3,p.f.now+(1:Int),p.f.cnt⟩ (L3.length - d3) p1.l.length p.f.s1.l.length p.f.s2.l.length p.f.s3.l.length) 44) true))))) (K (.tup []) (bG ⟨⟨p1.l,p1.com⟩,p.f.s1,p.f.s2,p.f.s3,p1.c0,p1.c1,p1.c2,p1.c3,L2,d2,o2,u2,p.f.now+(1:Int),p.f.cnt⟩ (L2.length - d2) p1.l.length p.f.s1.l.length p.f.s2.l.length p.f.s3.l.length) 44)) true))))) (K (.tup []) (bG ⟨⟨p1.l,p1.com⟩,p.f.s1,p.f.s2,p.f.s3,p1.c0,p1.c1,p1.c2,p1.c3,L1,d1,o1,u1,p.f.now+(1:Int),p.f.cnt⟩ (L1.length - d1) p1.l.length p.f.s1.l.length p.f.s2.l.length p.f.s3.l.length) 44)) true))))) (K (.tup []) (bG ({p.f with s0:=⟨p1.l,p1.com⟩,c0:=p1.c0,c1:=p1.c1,c2:=p1.c2,c3:=p1.c3,now:=p.f.now+(1:Int)}:G4) (p.f.L.length - p.f.a) p1.l.length p.f.s1.l.length p.f.s2.l.length p.f.s3.l.length) 44)))) (by kernel_rfl) ?_
 dsimp only[eZ]at hpre
 obtain⟨hinv,n1,n2,n3⟩:=hpre
 have hI:FInv p.f.s0 _ _ (p.f.L.drop p.f.a):=hinv.1
 obtain⟨a0,a1,a2,a3,⟨b1,c1,d1,e1,f1⟩,⟨b2,c2,d2,e2,f2⟩,⟨b3,c3,d3,e3,f3⟩⟩:=mU hinv
 refine aQ ?_
 refine aB (⟨p.f.s0.l,p.f.s0.com,p.f.c0,p.f.c1,p.f.c2,p.f.c3,p.f.now+(1:Int)⟩:nH) rfl (by(try dsimp only[oV]);omega) fun r1 hi1=> ?_
 dsimp only[rV]at hi1
 refine iI (fun hc2=> ?_) (fun hc2=> ?_)
 refine aK (cZ ?_)
 refine aH ([⟨(0:Int),(1:Int),(3:Int),p.f.c1,p.f.s0.com,r1.h1,r1.e1⟩]:List Fl) ?_
 refine mI (show bz (([⟨(0:Int),(1:Int),(3:Int),p.f.c1,p.f.s0.com,r1.h1,r1.e1⟩]:List Fl).map cw) [[.int 0 (.ofNat 0),.int 0 (.ofNat 1),.int 1 (.ofNat 3),.int 1 (.ofNat 0),.int 1 (.ofNat 0),.int 3 (.ofNat 1),.sint 3 p.f.c1,.sint 3 p.f.s0.com,.int 3 (.ofNat 0),.int 4 (.ofNat 0),.int 4 (.ofNat 0),.int 1 (.ofNat 0),.int 2 (.ofNat 0),.int 3 (.ofNat 0),.int 1 (.ofNat 0),.int 1 (.ofNat 0),.int 1 (.ofNat 0),.int 1 (.ofNat 0),.int 1 (.ofNat 0),.int 1 (.ofNat 0),.int 1 (.ofNat 0),.nilS,.int 1 (.ofNat 0),.str [],.int 1 (.ofNat 0),.int 3 (.ofNat 0),.nilS,.int 1 (.ofNat 0),.int 2 (.ofNat 0),.bool false,.nilS,.imm r1.h1 18 Ke r1.e1 ai,.nilS]] from⟨⟨.inr (.inl ⟨_,_,rfl,rfl⟩),⟨.inr (.inl ⟨_,_,rfl,rfl⟩),⟨.inr (.inl ⟨_,_,rfl,rfl⟩),⟨.inl rfl,⟨.inl rfl,⟨.inl rfl,⟨.inl rfl,⟨.inl rfl,⟨.inl rfl,⟨.inl rfl,⟨.inl rfl,⟨.inl rfl,⟨.inl rfl,⟨.inl rfl,⟨.inl rfl,⟨.inl rfl,⟨.inl rfl,⟨.inl rfl,⟨.inl rfl,⟨.inl rfl,⟨.inl rfl,⟨.inl rfl,⟨.inl rfl,⟨.inl rfl,⟨.inl rfl,⟨.inl rfl,⟨.inl rfl,⟨.inl rfl,⟨.inl rfl,⟨.inl rfl,⟨.inl rfl,⟨.inl rfl,⟨.inl rfl,trivial⟩⟩⟩⟩⟩⟩⟩⟩⟩⟩⟩⟩⟩⟩⟩⟩⟩⟩⟩⟩⟩⟩⟩⟩⟩⟩⟩⟩⟩⟩⟩⟩⟩,trivial⟩) ?_
 refine mI (by(try dsimp only);first|(simp only[aC,akk,aky,akG];omega)|(simp only[aC,akl,akn];omega)|(simp only[akl,akn]at*;unfold aC;omega)) ?_
 refine aj (fun L1=> ?_)
 refine aj (fun d1=> ?_)
 refine aj (fun o1=> ?_)
 refine aj (fun u1=> ?_)
 refine iI (p:=d1≤L1.length∧L1.length≤p.f.L.length+([⟨(0:Int),(1:Int),(3:Int),p.f.c1,p.f.s0.com,r1.h1,r1.e1⟩]:List Fl).length∧L1.drop d1=p.f.L.drop p.f.a++([⟨(0:Int),(1:Int),(3:Int),p.f.c1,p.f.s0.com,r1.h1,r1.e1⟩]:List Fl)) (fun hi3=> ?_) (fun _=>rfl)
 refine iI (fun hc4=> ?_) (fun hc4=> ?_)
 refine aK (cZ ?_)
 refine aH ([⟨(0:Int),(2:Int),(3:Int),p.f.c2,p.f.s0.com,r1.h2,r1.e2⟩]:List Fl) ?_
 refine mI (show bz (([⟨(0:Int),(2:Int),(3:Int),p.f.c2,p.f.s0.com,r1.h2,r1.e2⟩]:List Fl).map cw) [[.int 0 (.ofNat 0),.int 0 (.ofNat 2),.int 1 (.ofNat 3),.int 1 (.ofNat 0),.int 1 (.ofNat 0),.int 3 (.ofNat 1),.sint 3 p.f.c2,.sint 3 p.f.s0.com,.int 3 (.ofNat 0),.int 4 (.ofNat 0),.int 4 (.ofNat 0),.int 1 (.ofNat 0),.int 2 (.ofNat 0),.int 3 (.ofNat 0),.int 1 (.ofNat 0),.int 1 (.ofNat 0),.int 1 (.ofNat 0),.int 1 (.ofNat 0),.int 1 (.ofNat 0),.int 1 (.ofNat 0),.int 1 (.ofNat 0),.nilS,.int 1 (.ofNat 0),.str [],.int 1 (.ofNat 0),.int 3 (.ofNat 0),.nilS,.int 1 (.ofNat 0),.int 2 (.ofNat 0),.bool false,.nilS,.imm r1.h2 18 Ke r1.e2 ai,.nilS]] from⟨⟨.inr (.inl ⟨_,_,rfl,rfl⟩),⟨.inr (.inl ⟨_,_,rfl,rfl⟩),⟨.inr (.inl ⟨_,_,rfl,rfl⟩),⟨.inl rfl,⟨.inl rfl,⟨.inl rfl,⟨.inl rfl,⟨.inl rfl,⟨.inl rfl,⟨.inl rfl,⟨.inl rfl,⟨.inl rfl,⟨.inl rfl,⟨.inl rfl,⟨.inl rfl,⟨.inl rfl,⟨.inl rfl,⟨.inl rfl,⟨.inl rfl,⟨.inl rfl,⟨.inl rfl,⟨.inl rfl,⟨.inl rfl,⟨.inl rfl,⟨.inl rfl,⟨.inl rfl,⟨.inl rfl,⟨.inl rfl,⟨.inl rfl,⟨.inl rfl,⟨.inl rfl,⟨.inl rfl,⟨.inl rfl,trivial⟩⟩⟩⟩⟩⟩⟩⟩⟩⟩⟩⟩⟩⟩⟩⟩⟩⟩⟩⟩⟩⟩⟩⟩⟩⟩⟩⟩⟩⟩⟩⟩⟩,trivial⟩) ?_
 refine mI (by(try dsimp only);first|(simp only[aC,akk,aky,akG];omega)|(simp only[aC,akl,akn];omega)|(simp only[akl,akn]at*;unfold aC;omega)) ?_
 refine aj (fun L2=> ?_)
 refine aj (fun d2=> ?_)
 refine aj (fun o2=> ?_)
 refine aj (fun u2=> ?_)
 refine iI (p:=d2≤L2.length∧L2.length≤L1.length+([⟨(0:Int),(2:Int),(3:Int),p.f.c2,p.f.s0.com,r1.h2,r1.e2⟩]:List Fl).length∧L2.drop d2=L1.drop d1++([⟨(0:Int),(2:Int),(3:Int),p.f.c2,p.f.s0.com,r1.h2,r1.e2⟩]:List Fl)) (fun hi5=> ?_) (fun _=>rfl)
 refine iI (fun hc6=> ?_) (fun hc6=> ?_)
 refine aK (cZ ?_)
 refine aH ([⟨(0:Int),(3:Int),(3:Int),p.f.c3,p.f.s0.com,r1.h3,r1.e3⟩]:List Fl) ?_
 refine mI (show bz (([⟨(0:Int),(3:Int),(3:Int),p.f.c3,p.f.s0.com,r1.h3,r1.e3⟩]:List Fl).map cw) [[.int 0 (.ofNat 0),.int 0 (.ofNat 3),.int 1 (.ofNat 3),.int 1 (.ofNat 0),.int 1 (.ofNat 0),.int 3 (.ofNat 1),.sint 3 p.f.c3,.sint 3 p.f.s0.com,.int 3 (.ofNat 0),.int 4 (.ofNat 0),.int 4 (.ofNat 0),.int 1 (.ofNat 0),.int 2 (.ofNat 0),.int 3 (.ofNat 0),.int 1 (.ofNat 0),.int 1 (.ofNat 0),.int 1 (.ofNat 0),.int 1 (.ofNat 0),.int 1 (.ofNat 0),.int 1 (.ofNat 0),.int 1 (.ofNat 0),.nilS,.int 1 (.ofNat 0),.str [],.int 1 (.ofNat 0),.int 3 (.ofNat 0),.nilS,.int 1 (.ofNat 0),.int 2 (.ofNat 0),.bool false,.nilS,.imm r1.h3 18 Ke r1.e3 ai,.nilS]] from⟨⟨.inr (.inl ⟨_,_,rfl,rfl⟩),⟨.inr (.inl ⟨_,_,rfl,rfl⟩),⟨.inr (.inl ⟨_,_,rfl,rfl⟩),⟨.inl rfl,⟨.inl rfl,⟨.inl rfl,⟨.inl rfl,⟨.inl rfl,⟨.inl rfl,⟨.inl rfl,⟨.inl rfl,⟨.inl rfl,⟨.inl rfl,⟨.inl rfl,⟨.inl rfl,⟨.inl rfl,⟨.inl rfl,⟨.inl rfl,⟨.inl rfl,⟨.inl rfl,⟨.inl rfl,⟨.inl rfl,⟨.inl rfl,⟨.inl rfl,⟨.inl rfl,⟨.inl rfl,⟨.inl rfl,⟨.inl rfl,⟨.inl rfl,⟨.inl rfl,⟨.inl rfl,⟨.inl rfl,⟨.inl rfl,trivial⟩⟩⟩⟩⟩⟩⟩⟩⟩⟩⟩⟩⟩⟩⟩⟩⟩⟩⟩⟩⟩⟩⟩⟩⟩⟩⟩⟩⟩⟩⟩⟩⟩,trivial⟩) ?_
 refine mI (by(try dsimp only);first|(simp only[aC,akk,aky,akG];omega)|(simp only[aC,akl,akn];omega)|(simp only[akl,akn]at*;unfold aC;omega)) ?_
 refine aj (fun L3=> ?_)
 refine aj (fun d3=> ?_)
 refine aj (fun o3=> ?_)
 refine aj (fun u3=> ?_)
 refine iI (p:=d3≤L3.length∧L3.length≤L2.length+([⟨(0:Int),(3:Int),(3:Int),p.f.c3,p.f.s0.com,r1.h3,r1.e3⟩]:List Fl).length∧L3.drop d3=L2.drop d2++([⟨(0:Int),(3:Int),(3:Int),p.f.c3,p.f.s0.com,r1.h3,r1.e3⟩]:List Fl)) (fun hi7=> ?_) (fun _=>rfl)
 exact rB hK ⟨⟨⟨p.f.s0.l,p.f.s0.com⟩,p.f.s1,p.f.s2,p.f.s3,p.f.c0,p.f.c1,p.f.c2,p.f.c3,L3,d3,o3,u3,p.f.now+(1:Int),p.f.cnt⟩⟩ (by dsimp only[eg]<;>(dsimp only[OT];first|(exfalso;omega)|exact⟨[⟨0,1,3,p.f.c1,p.f.s0.com,r1.h1,r1.e1⟩,⟨0,2,3,p.f.c2,p.f.s0.com,r1.h2,r1.e2⟩,⟨0,3,3,p.f.c3,p.f.s0.com,r1.h3,r1.e3⟩],PG (by assumption),by repeat' (first|exact mJ (by omega)|exact rD (by omega) (by omega)|refine mH (by omega) (by assumption) ?_),rfl,rfl,rfl,rfl,rfl⟩))
 exact rB hK ⟨⟨⟨p.f.s0.l,p.f.s0.com⟩,p.f.s1,p.f.s2,p.f.s3,p.f.c0,p.f.c1,p.f.c2,p.f.c3,L2,d2,o2,u2,p.f.now+(1:Int),p.f.cnt⟩⟩ (by dsimp only[eg]<;>(dsimp only[OT];first|(exfalso;omega)|exact⟨[⟨0,1,3,p.f.c1,p.f.s0.com,r1.h1,r1.e1⟩,⟨0,2,3,p.f.c2,p.f.s0.com,r1.h2,r1.e2⟩,⟨0,3,3,p.f.c3,p.f.s0.com,r1.h3,r1.e3⟩],PG (by assumption),by repeat' (first|exact mJ (by omega)|exact rD (by omega) (by omega)|refine mH (by omega) (by assumption) ?_),rfl,rfl,rfl,rfl,rfl⟩))
 exact rB hK ⟨⟨⟨p.f.s0.l,p.f.s0.com⟩,p.f.s1,p.f.s2,p.f.s3,p.f.c0,p.f.c1,p.f.c2,p.f.c3,L1,d1,o1,u1,p.f.now+(1:Int),p.f.cnt⟩⟩ (by dsimp only[eg]<;>(dsimp only[OT];first|(exfalso;omega)|exact⟨[⟨0,1,3,p.f.c1,p.f.s0.com,r1.h1,r1.e1⟩,⟨0,2,3,p.f.c2,p.f.s0.com,r1.h2,r1.e2⟩,⟨0,3,3,p.f.c3,p.f.s0.com,r1.h3,r1.e3⟩],PG (by assumption),by repeat' (first|exact mJ (by omega)|exact rD (by omega) (by omega)|refine mH (by omega) (by assumption) ?_),rfl,rfl,rfl,rfl,rfl⟩))
 exact rB hK ⟨({p.f with s0:=⟨p.f.s0.l,p.f.s0.com⟩,c0:=p.f.c0,c1:=p.f.c1,c2:=p.f.c2,c3:=p.f.c3,now:=p.f.now+(1:Int)}:G4)⟩ (by dsimp only[eg]<;>(dsimp only[OT];first|(exfalso;omega)|exact⟨[⟨0,1,3,p.f.c1,p.f.s0.com,r1.h1,r1.e1⟩,⟨0,2,3,p.f.c2,p.f.s0.com,r1.h2,r1.e2⟩,⟨0,3,3,p.f.c3,p.f.s0.com,r1.h3,r1.e3⟩],PG (by assumption),by repeat' (first|exact mJ (by omega)|exact rD (by omega) (by omega)|refine mH (by omega) (by assumption) ?_),rfl,rfl,rfl,rfl,rfl⟩))
noncomputable def Bc:aM:=bn (fun us M=>bC (Nat.beq (ca M 1) 4) (Nat.beq (xP us 1) 0)) (be lz (cm eZ xj)) Bd
theorem JW:aX Tryz.prog 28 1 Bc:=aD (bi (f:=28) (k:=1) (ay yz) Pi (by rfl) (by rfl) Xc) JX
noncomputable def xH:=aZ xI 1 Bc 28 [(0,4),(1,1)]
theorem yy:aE Tryz.prog xH:=az JW yz
def KD:XF:=eH
theorem Ph:aW Tryz.prog 28 KD=true:=dO
structure fR where
 f:G4
noncomputable def ly (p:fR):IE:=([.ptr 0 0,sS],(bG p.f (p.f.L.length - p.f.a) p.f.s0.l.length p.f.s1.l.length p.f.s2.l.length p.f.s3.l.length),44)
noncomputable def Gk (p:fR) (K:KE):Bool:=K (.tup []) (bG ({p.f with now:=p.f.now+1}:G4) (p.f.L.length - p.f.a) p.f.s0.l.length p.f.s1.l.length p.f.s2.l.length p.f.s3.l.length) 44
def eY (p:fR):Prop:=dy p.f∧0≤p.f.now∧p.f.now≤1000000∧p.f.L.length≤1000000
theorem Xb (p:fR) (K:KE) (hpre:eY p) (hK:Gk p K=true):(aY 1 (bg xH) bp 600 KD (ly p).1 (ly p).2.1 (ly p).2.2 K)=true:=by
 refine Eq.trans (b:=(mP (aL 0 (p.f.now+(1:Int))) (ax fun p1:iu=>mP (([.ptr 0 0,.sy (.int 0 (p.f.now+(1:Int)))],(cV p.f.s1.l p.f.s1.com 0 0 0 0 1),10)=nD p1) (mP (fA p1) (K (.tup []) (zC ({p.f with s1:=⟨p1.l,p1.com⟩,now:=p.f.now+(1:Int)}:G4) p1.me p1.c0 p1.c1 p1.c2 p1.c3 2 0 0 0 0 3 0 0 0 0 (p.f.L.length - p.f.a) p.f.s0.l.length p1.l.length p.f.s2.l.length p.f.s3.l.length) 44))))) (by kernel_rfl) ?_
 dsimp only[eY]at hpre
 obtain⟨hinv,n1,n2,n3⟩:=hpre
 have hI:FInv p.f.s0 _ _ (p.f.L.drop p.f.a):=hinv.1
 obtain⟨a0,a1,a2,a3,⟨b1,c1,d1,e1,f1⟩,⟨b2,c2,d2,e2,f2⟩,⟨b3,c3,d3,e3,f3⟩⟩:=mU hinv
 refine aQ ?_
 refine aP (⟨p.f.s1.l,p.f.s1.com,(0:Int),(0:Int),(0:Int),(0:Int),(1:Int),p.f.now+(1:Int)⟩:iu) rfl (by(try dsimp only[fA]);omega) ?_
 exact hK
noncomputable def AZ:aM:=bn (fun us M=>bC (Nat.beq (ca M 1) 4) (Nat.beq (xP us 1) 1)) (be ly (cm eY Gk)) Bc
theorem JV:aX Tryz.prog 28 1 AZ:=aD (bi (f:=28) (k:=1) (ay yy) Ph (by rfl) (by rfl) Xb) JW
noncomputable def xG:=aZ xH 1 AZ 28 [(0,4),(1,1)]
theorem yx:aE Tryz.prog xG:=az JV yy
def KB:XF:=eH
theorem Pg:aW Tryz.prog 28 KB=true:=dO
structure fQ where
 f:G4
noncomputable def lx (p:fQ):IE:=([.ptr 0 0,nw],(bG p.f (p.f.L.length - p.f.a) p.f.s0.l.length p.f.s1.l.length p.f.s2.l.length p.f.s3.l.length),44)
noncomputable def Gj (p:fQ) (K:KE):Bool:=K (.tup []) (bG ({p.f with now:=p.f.now+1}:G4) (p.f.L.length - p.f.a) p.f.s0.l.length p.f.s1.l.length p.f.s2.l.length p.f.s3.l.length) 44
def eX (p:fQ):Prop:=dy p.f∧0≤p.f.now∧p.f.now≤1000000∧p.f.L.length≤1000000
theorem Xa (p:fQ) (K:KE) (hpre:eX p) (hK:Gj p K=true):(aY 1 (bg xG) bp 600 KB (lx p).1 (lx p).2.1 (lx p).2.2 K)=true:=by
 refine Eq.trans (b:=(mP (aL 0 (p.f.now+(1:Int))) (ax fun p1:iu=>mP (([.ptr 0 0,.sy (.int 0 (p.f.now+(1:Int)))],(cV p.f.s2.l p.f.s2.com 0 0 0 0 2),10)=nD p1) (mP (fA p1) (K (.tup []) (zC ({p.f with s2:=⟨p1.l,p1.com⟩,now:=p.f.now+(1:Int)}:G4) 1 0 0 0 0 p1.me p1.c0 p1.c1 p1.c2 p1.c3 3 0 0 0 0 (p.f.L.length - p.f.a) p.f.s0.l.length p.f.s1.l.length p1.l.length p.f.s3.l.length) 44))))) (by kernel_rfl) ?_
 dsimp only[eX]at hpre
 obtain⟨hinv,n1,n2,n3⟩:=hpre
 have hI:FInv p.f.s0 _ _ (p.f.L.drop p.f.a):=hinv.1
 obtain⟨a0,a1,a2,a3,⟨b1,c1,d1,e1,f1⟩,⟨b2,c2,d2,e2,f2⟩,⟨b3,c3,d3,e3,f3⟩⟩:=mU hinv
 refine aQ ?_
 refine aP (⟨p.f.s2.l,p.f.s2.com,(0:Int),(0:Int),(0:Int),(0:Int),(2:Int),p.f.now+(1:Int)⟩:iu) rfl (by(try dsimp only[fA]);omega) ?_
 exact hK
noncomputable def AY:aM:=bn (fun us M=>bC (Nat.beq (ca M 1) 4) (Nat.beq (xP us 1) 2)) (be lx (cm eX Gj)) AZ
theorem JU:aX Tryz.prog 28 1 AY:=aD (bi (f:=28) (k:=1) (ay yx) Pg (by rfl) (by rfl) Xa) JV
noncomputable def xF:=aZ xG 1 AY 28 [(0,4),(1,1)]
theorem yw:aE Tryz.prog xF:=az JU yx
def KA:XF:=eH
theorem Pf:aW Tryz.prog 28 KA=true:=dO
structure fO where
 f:G4
noncomputable def lw (p:fO):IE:=([.ptr 0 0,XM],(bG p.f (p.f.L.length - p.f.a) p.f.s0.l.length p.f.s1.l.length p.f.s2.l.length p.f.s3.l.length),44)
noncomputable def Gi (p:fO) (K:KE):Bool:=K (.tup []) (bG ({p.f with now:=p.f.now+1}:G4) (p.f.L.length - p.f.a) p.f.s0.l.length p.f.s1.l.length p.f.s2.l.length p.f.s3.l.length) 44
def eW (p:fO):Prop:=dy p.f∧0≤p.f.now∧p.f.now≤1000000∧p.f.L.length≤1000000
theorem WZ (p:fO) (K:KE) (hpre:eW p) (hK:Gi p K=true):(aY 1 (bg xF) bp 600 KA (lw p).1 (lw p).2.1 (lw p).2.2 K)=true:=by
 refine Eq.trans (b:=(mP (aL 0 (p.f.now+(1:Int))) (ax fun p1:iu=>mP (([.ptr 0 0,.sy (.int 0 (p.f.now+(1:Int)))],(cV p.f.s3.l p.f.s3.com 0 0 0 0 3),10)=nD p1) (mP (fA p1) (K (.tup []) (zC ({p.f with s3:=⟨p1.l,p1.com⟩,now:=p.f.now+(1:Int)}:G4) 1 0 0 0 0 2 0 0 0 0 p1.me p1.c0 p1.c1 p1.c2 p1.c3 (p.f.L.length - p.f.a) p.f.s0.l.length p.f.s1.l.length p.f.s2.l.length p1.l.length) 44))))) (by kernel_rfl) ?_
 dsimp only[eW]at hpre
 obtain⟨hinv,n1,n2,n3⟩:=hpre
 have hI:FInv p.f.s0 _ _ (p.f.L.drop p.f.a):=hinv.1
 obtain⟨a0,a1,a2,a3,⟨b1,c1,d1,e1,f1⟩,⟨b2,c2,d2,e2,f2⟩,⟨b3,c3,d3,e3,f3⟩⟩:=mU hinv
 refine aQ ?_
 refine aP (⟨p.f.s3.l,p.f.s3.com,(0:Int),(0:Int),(0:Int),(0:Int),(3:Int),p.f.now+(1:Int)⟩:iu) rfl (by(try dsimp only[fA]);omega) ?_
 exact hK
noncomputable def KX:aM:=bn (fun us M=>bC (Nat.beq (ca M 1) 4) (Nat.beq (xP us 1) 3)) (be lw (cm eW Gi)) AY
theorem XG:aX Tryz.prog 28 1 KX:=aD (bi (f:=28) (k:=1) (ay yw) Pf (by rfl) (by rfl) WZ) JU
noncomputable def xE:=aZ xF 1 KX 28 [(0,4),(1,1)]
theorem yu:aE Tryz.prog xE:=az XG yw
end Go.Proofs.Tryz
