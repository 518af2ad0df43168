/- Definitions and lemmas of the proof, without a condition of their own. -/
import Derived.Test.YtacomabmhnodlaaGreatDoorM3
import Derived.KernelRfl
import Derived.IntWalk
open List renaming cons_append→aaJ,eq_nil_of_length_eq_zero→aaX,length_append→aaC,length_cons→aaD,length_map→aaE,nil_append→aaK
open Option.some renaming inj→aaZ
open Prod.mk renaming injEq→aa1
open UInt8 renaming ofNat→aaY
namespace Go.Proofs.Tryz
open Go Go.RowKit Go.Sy
open Go.Eng hiding ai
set_option maxRecDepth 1000000
set_option linter.unusedVariables false
set_option maxHeartbeats 4000000
def sJ:XC:=(.aft (.seq (.seq (g_ 4 [p_ 0 5 (m_ 4),p_ 1 6 (m_ 0),p_ 2 7 (k_ 6),p_ 3 8 (.bin 3 0 (.t 5) (.t 7))]) (.cond (.t 8) .skip (.exit 2))) (.seq (.block 3 (g_ 9 [p_ 0 11 (m_ 3),p_ 1 12 (m_ 0),p_ 2 13 (m_ 4),p_ 3 14 (.ixs 5 (.t 12) (.t 13)),r_ 4 15 (.ld true 5 (.t 14)),c_ 5 16 56 [.t 15],e_ 6 17 (.bsl 118 5 1 [.int 1 (.ofNat 0),.int 1 (.ofNat 0),.str [],.str [],.int 0 (.ofNat 0)] [(0,5)] [.t 16]),e_ 7 18 (.app 118 5 48 (.t 11) (.t 17)),p_ 8 3 (m_ 18)])) (g_ 3 [p_ 0 9 (m_ 4),p_ 1 10 (.bin 0 0 (.t 9) (i_ 1)),p_ 2 4 (m_ 10)]))) [(0,[.can 0 [0,3,4]]),(2,[.can 0 [3]])])
def Et:XF:=.mk 20 (.one 2) (.aft (.seq (g_ 1 [p_ 0 2 (.mv (.c .nilS))]) (.seq (g_ 1 [p_ 0 3 (.mv (.c .nilS))]) (.seq (.seq (g_ 1 [p_ 0 4 (.mv (i_ 0))]) (.block 2 (.pre [.can 0 [0,3,4],.born 3 118 5 aB aF,.up 4,.can 0 [0,3,4]] (.inv 0 sJ)))) (.seq (g_ 2 [p_ 0 19 (m_ 3),p_ 1 2 (m_ 19)]) .ret)))) [(0,[.frz 2]),(1,[.frz 2])])
theorem HA:ci Tryz.prog 27 Et=true:=by kernel_rfl
structure dT where
 h:Value
 l:List aB
 o:List aB
 i:Int
structure ve where
 o:List aB
def kX (p:dT) (r:ve):Prop:=r.o=p.l
noncomputable def fE (p:dT):IL:=((.cons 4 (.sy (.int 0 p.i)) (.cons 3 (.sy (.prow 0 p.o.length)) (.cons 0 (.sy (.imm p.h 5 aB p.l aF)) .nil))),(.node .leaf (some (.prow 118 5 aB p.o aF)) .leaf),1)
noncomputable def mQ (p:dT) (K:KC):Bool:=ai fun r:ve=>iP (kX p r) (K 2 (.cons 3 (.sy (.prow 0 r.o.length)) .nil) (.node .leaf (some (.prow 118 5 aB r.o aF)) .leaf) 1) true
def fY (p:dT):Prop:=p.l.length≤10∧0≤p.i∧p.i≤(p.l.length:Int)∧(p.o.length:Int)=p.i∧p.o=p.l.take p.i.toNat
theorem HY {p:dT} {K:KC} (hK:mQ p K=true) (r:ve) (h:kX p r):K 2 (.cons 3 (.sy (.prow 0 r.o.length)) .nil) (.node .leaf (some (.prow 118 5 aB r.o aF)) .leaf) 1=true:=aq h (az hK r)
noncomputable def nT (p:dT) (K:KC):Bool:=ac (aC (fY p)) (mQ p K)
noncomputable def rC:gO:=fun j S M nx K=>(Bool.rec (false) (aN fun p:dT=>ac (aC ((S,M,nx)=fE p)) (nT p K)) (Nat.beq j 0))
def eS (p:dT):Nat:=((p.l.length:Int) - p.i).toNat
noncomputable def za (s:IL) (n:Nat) (K:KC):Bool:=aN fun q=>mP (s=fE q∧eS q<n) (nT q K)
theorem Js {p q:dT} {K:KC} {s:IL} (hm:eS q<eS p:=by dsimp only[eS]<;>(omega)) (hp:fY q:=by dsimp only[fY]<;>(exact⟨g0,by omega,by omega,by simp;omega,by rw[show(p.i+1).toNat=p.i.toNat+1 by omega,←tk (by assumption:p.l[p.i.toNat]?=some _),g4]⟩)) (hK:mQ q K=true:=by exact hK) (e:s=fE q:=by rfl):za s (eS p) K=true:=bj q (bl ⟨e,hm⟩ (bl hp hK))
theorem IR (p:dT) (K:KC) (hpre:fY p) (hK:mQ p K=true):(df (cj xQ) rC 600 sJ (fE p).1 (fE p).2.1 (fE p).2.2 (fun e S M nx=>Nat.casesOn e (aN fun q:dT=>ac (aC ((S,M,nx)=fE q∧eS q<eS p)) (nT q K)) (fun e2=>K (Nat.succ e2) S M nx)))=true:=by
 refine Eq.trans (b:=(iP (p.i<(p.l.length:Int)) (mP (0≤p.i∧p.i<(p.l.length:Int)) (ai fun x1:aB=>iP (p.l[p.i.toNat]?=some x1) (mP (p.o.length=p.o.length) (aN fun m1:List aB=>mP (ie (m1.map aF) [[.sint 1 x1.g,.sint 1 x1.k,.sstr x1.key,.sstr x1.val,.sint 0 x1.n]]) (mP (dW 48 (p.o.length+m1.length)) (mP (bb 0 (p.i+(1:Int))) (za ((.cons 4 (.sy (.int 0 (p.i+(1:Int)))) (.cons 3 (.sy (.prow 0 ((p.o++m1).length))) (.cons 0 (.sy (.imm p.h 5 aB p.l aF)) .nil))),(.node .leaf (some (.prow 118 5 aB (p.o++m1) aF)) .leaf),1) (eS p) K))))) true)) (K 2 (.cons 3 (.sy (.prow 0 p.o.length)) .nil) (.node .leaf (some (.prow 118 5 aB p.o aF)) .leaf) 1))) (by kernel_rfl) ?_
 dsimp only[fY]at hpre
 obtain⟨g0,g1,g2,g3,g4⟩:=hpre
 refine iI (fun hc1=> ?_) (fun hc1=> ?_)
 refine bC ?_
 refine am (fun x1=> ?_)
 refine iI (fun hi2=> ?_) (fun _=>rfl)
 refine bi ?_
 refine bj [x1] ?_
 refine wI (mI (by(try dsimp only);(first|omega|(simp[dW]<;>omega))) (fe ?_))
 exact Js (q:=⟨p.h,p.l,p.o++[x1],p.i+(1:Int)⟩)
 exact HY hK ⟨p.o⟩ (by dsimp only[kX]<;>(rw[g4];exact List.take_of_length_le (by omega)))
theorem IZ:dR Tryz.prog 20 0 rC true 0 sJ:=by
 exact gm (lf:=600) bH (aQ uD) (by rfl) fE eS nT (fun b j x h=>by cases h) (fun S M nx K h=>by obtain⟨p,h⟩:=bR h;exact⟨p,(aa h).1,(aa h).2⟩) (fun p K h=>IR p K (aa h).1 (aa h).2)
structure lJ where
 h:Value
 l:List aB
structure AC where
 h:Value
 o:List aB
def ot (p:lJ) (r:AC):Prop:=r.o=p.l
noncomputable def qT (p:lJ):IE:=([.sy (.imm p.h 5 aB p.l aF)],.leaf,0)
noncomputable def uh (p:lJ) (K:KE):Bool:=ai fun r:AC=>iP (ot p r) (K (.sy (.imm r.h 5 aB r.o aF)) .leaf 0) true
def mC (p:lJ):Prop:=p.l.length≤10
theorem Mh {p:lJ} {K:KE} (hK:uh p K=true) (r:AC) (h:ot p r):K (.sy (.imm r.h 5 aB r.o aF)) .leaf 0=true:=aq h (az hK r)
theorem MO (p:lJ) (K:KE) (hpre:mC p) (hK:uh p K=true):(cw 0 (cj xQ) rC 600 Et (qT p).1 (qT p).2.1 (qT p).2.2 K)=true:=by
 refine Eq.trans (b:=(aH (((.cons 4 (.sy (.int 0 0)) (.cons 3 (.sy (.prow 0 0)) (.cons 0 (.sy (.imm p.h 5 aB p.l aF)) .nil))),(.node .leaf (some (.prow 118 5 aB ([]:List aB) aF)) .leaf),1)) fE fY kX fun p1 r1=>mP (r1.o.length=r1.o.length) (ai fun h1:Value=>K (.sy (.imm h1 5 aB r1.o aF)) .leaf 0))) (by kernel_rfl) ?_
 dsimp only[mC]at hpre
 refine ay (⟨p.h,p.l,([]:List aB),(0:Int)⟩:dT) rfl (by(try dsimp only[fY]);exact⟨by assumption,by omega,by omega,by simp,by simp⟩) fun r1 hi1=> ?_
 dsimp only[kX]at hi1
 refine bi ?_
 refine am (fun h1=> ?_)
 exact Mh hK ⟨h1,r1.o⟩ (by dsimp only[ot]<;>exact hi1)
noncomputable def uB:=bN xQ 0 (ck qT (dP mC uh)) 27 [(0,23)]
theorem vr:aZ Tryz.prog uB:=aR (cM (f:=27) (k:=0) (lp:=rC) (lf:=600) bH (aQ uD) HA (by rfl) (fun b j x h=>(cG IZ (fun h=>(by cases h)) h)) fun p K h=>MO p K (aa h).1 (aa h).2) uD
def BB:XF:=.mk 66 (.one 4) (.aft (.seq (g_ 3 [e_ 0 2 (.box 79 (.t 0)),e_ 1 3 (.box 79 (.t 1)),p_ 2 4 (.mv (.c (.bool false)))]) (.seq (g_ 62 [p_ 0 5 (f_ 0 2),r_ 1 6 (l_ 5),p_ 2 7 (f_ 0 3),r_ 3 8 (l_ 7),p_ 4 9 (.bin 3 4 (.t 6) (.t 8)),p_ 5 10 (m_ 9),au 6 11 10 true (f_ 1 2),aY 7 12 10 true (l_ 11),au 8 13 10 true (f_ 1 3),aY 9 14 10 true (l_ 13),au 10 15 10 true (.bin 3 4 (.t 12) (.t 14)),p_ 11 16 (.pick (.t 10) (.t 15) (.c (.bool false))),p_ 12 17 (m_ 16),au 13 18 17 true (f_ 2 2),aY 14 19 17 true (l_ 18),au 15 20 17 true (f_ 2 3),aY 16 21 17 true (l_ 20),au 17 22 17 true (.bin 3 4 (.t 19) (.t 21)),p_ 18 23 (.pick (.t 17) (.t 22) (.c (.bool false))),p_ 19 24 (m_ 23),au 20 25 24 true (f_ 3 2),aY 21 26 24 true (l_ 25),au 22 27 24 true (f_ 3 3),aY 23 28 24 true (l_ 27),au 24 29 24 true (.bin 3 4 (.t 26) (.t 28)),p_ 25 30 (.pick (.t 24) (.t 29) (.c (.bool false))),p_ 26 31 (m_ 30),au 27 32 31 true (f_ 4 2),aY 28 33 31 true (l_ 32),au 29 34 31 true (f_ 4 3),aY 30 35 31 true (l_ 34),au 31 36 31 true (.bin 3 4 (.t 33) (.t 35)),p_ 32 37 (.pick (.t 31) (.t 36) (.c (.bool false))),p_ 33 38 (m_ 37),au 34 39 38 true (f_ 5 2),aY 35 40 38 true (l_ 39),au 36 41 38 true (f_ 5 3),aY 37 42 38 true (l_ 41),au 38 43 38 true (.bin 3 4 (.t 40) (.t 42)),p_ 39 44 (.pick (.t 38) (.t 43) (.c (.bool false))),p_ 40 45 (m_ 44),au 41 46 45 true (f_ 6 2),aY 42 47 45 true (l_ 46),au 43 48 45 true (f_ 6 3),aY 44 49 45 true (l_ 48),au 45 50 45 true (.bin 3 4 (.t 47) (.t 49)),p_ 46 51 (.pick (.t 45) (.t 50) (.c (.bool false))),p_ 47 52 (m_ 51),au 48 53 52 true (f_ 7 2),aY 49 54 52 true (l_ 53),au 50 55 52 true (f_ 7 3),aY 51 56 52 true (l_ 55),au 52 57 52 true (.bin 3 4 (.t 54) (.t 56)),p_ 53 58 (.pick (.t 52) (.t 57) (.c (.bool false))),p_ 54 59 (m_ 58),au 55 60 59 true (f_ 8 2),aY 56 61 59 true (l_ 60),au 57 62 59 true (f_ 8 3),aY 58 63 59 true (l_ 62),il 59 64 59 true 55 [.t 61,.t 63],p_ 60 65 (.pick (.t 59) (.t 64) (.c (.bool false))),p_ 61 4 (m_ 65)]) .ret)) [(0,[.up 4]),(1,[.up 4])])
theorem EX:ci Tryz.prog 26 BB=true:=by kernel_rfl
structure jZ where
 x:aI
 y:aI
structure xq where
 q:Prop
def dB (p:jZ) (r:xq):Prop:=r.q↔cx p.x=cx p.y
noncomputable def oI (p:jZ):IE:=([.agg [.sy (.int 0 p.x.kind),.sy (.int 0 p.x.x),.sy (.int 0 p.x.y),.sy (.int 0 p.x.i),.sy (.int 0 p.x.at_),.sy (.int 0 p.x.mode),.sy (.int 3 p.x.mask),.sy (.int 1 p.x.grp),.sy (.imm p.x.hp 5 aB p.x.ps aF)],.agg [.sy (.int 0 p.y.kind),.sy (.int 0 p.y.x),.sy (.int 0 p.y.y),.sy (.int 0 p.y.i),.sy (.int 0 p.y.at_),.sy (.int 0 p.y.mode),.sy (.int 3 p.y.mask),.sy (.int 1 p.y.grp),.sy (.imm p.y.hp 5 aB p.y.ps aF)]],.leaf,0)
noncomputable def sg (p:jZ) (K:KE):Bool:=ai fun r:xq=>iP (dB p r) (K (.sy (.bool r.q)) .leaf 0) true
def kV (p:jZ):Prop:=p.x.ps.length≤1000000∧p.y.ps.length≤1000000
theorem eW {p:jZ} {K:KE} (hK:sg p K=true) (r:xq) (h:dB p r):K (.sy (.bool r.q)) .leaf 0=true:=aq h (az hK r)
theorem KJ (p:jZ) (K:KE) (hpre:kV p) (hK:sg p K=true):(cw 0 (cj uB) dC 600 BB (oI p).1 (oI p).2.1 (oI p).2.2 K)=true:=by
 refine Eq.trans (b:=(let z0:Bool:=(K (.sy (.bool (false=true))) .leaf 0);iP (p.x.kind=p.y.kind) (iP (p.x.x=p.y.x) (iP (p.x.y=p.y.y) (iP (p.x.i=p.y.i) (iP (p.x.at_=p.y.at_) (iP (p.x.mode=p.y.mode) (iP (p.x.mask=p.y.mask) (iP (p.x.grp=p.y.grp) (aH (([.sy (.imm p.x.hp 5 aB p.x.ps aF),.sy (.imm p.y.hp 5 aB p.y.ps aF)],.leaf,0)) pL jw iK fun p1 r1=>K (.sy (.bool r1.q)) .leaf 0) z0) z0) z0) z0) z0) z0) z0) z0)) (by kernel_rfl) ?_
 dsimp only[kV]at hpre
 obtain⟨u1,u2⟩:=hpre
 refine iI (fun hc1=> ?_) (fun hc1=> ?_)
 refine iI (fun hc2=> ?_) (fun hc2=> ?_)
 refine iI (fun hc3=> ?_) (fun hc3=> ?_)
 refine iI (fun hc4=> ?_) (fun hc4=> ?_)
 refine iI (fun hc5=> ?_) (fun hc5=> ?_)
 refine iI (fun hc6=> ?_) (fun hc6=> ?_)
 refine iI (fun hc7=> ?_) (fun hc7=> ?_)
 refine iI (fun hc8=> ?_) (fun hc8=> ?_)
 refine ay (⟨p.x.hp,p.x.ps,p.y.hp,p.y.ps⟩:mj) rfl (by(try dsimp only[jw]);omega) fun r1 hi9=> ?_
 dsimp only[iK]at hi9
 exact eW hK ⟨r1.q⟩ (by dsimp only[dB]<;>(simp only[cx,aa1];simp_all))
 exact eW hK ⟨false=true⟩ (by dsimp only[dB]<;>(simp only[cx,aa1];simp_all))
 exact eW hK ⟨false=true⟩ (by dsimp only[dB]<;>(simp only[cx,aa1];simp_all))
 exact eW hK ⟨false=true⟩ (by dsimp only[dB]<;>(simp only[cx,aa1];simp_all))
 exact eW hK ⟨false=true⟩ (by dsimp only[dB]<;>(simp only[cx,aa1];simp_all))
 exact eW hK ⟨false=true⟩ (by dsimp only[dB]<;>(simp only[cx,aa1];simp_all))
 exact eW hK ⟨false=true⟩ (by dsimp only[dB]<;>(simp only[cx,aa1];simp_all))
 exact eW hK ⟨false=true⟩ (by dsimp only[dB]<;>(simp only[cx,aa1];simp_all))
 exact eW hK ⟨false=true⟩ (by dsimp only[dB]<;>(simp only[cx,aa1];simp_all))
noncomputable def kY:=bN uB 0 (ck oI (dP kV sg)) 26 [(0,15),(1,15)]
theorem kr:aZ Tryz.prog kY:=aR (cJ (f:=26) (k:=0) (aQ vr) EX (by rfl) (by rfl) KJ) vr
def Av:XC:=(.aft (.seq (.seq (g_ 5 [p_ 0 85 (m_ 6),p_ 1 86 (f_ 0 5),r_ 2 87 (l_ 86),p_ 3 88 (k_ 87),p_ 4 89 (.bin 3 0 (.t 85) (.t 88))]) (.cond (.t 89) .skip (.exit 2))) (.seq (.block 3 (.seq (g_ 8 [p_ 0 92 (f_ 0 3),p_ 1 93 (f_ 0 92),r_ 2 94 (l_ 93),p_ 3 95 (m_ 6),p_ 4 96 (.ixs 3 (.t 94) (.t 95)),r_ 5 97 (.ld true 3 (.t 96)),e_ 6 7 (.al 69 [.int 0 (.ofNat 0),.int 0 (.ofNat 0),.bool false]),bd 7 (.st 3 (.t 7) (.t 97))]) (.seq (h_ 13 [p_ 0 98 (f_ 0 5),r_ 1 99 (l_ 98),p_ 2 100 (m_ 6),p_ 3 101 (.ixs 3 (.t 99) (.t 100)),r_ 4 102 (.ld true 3 (.t 101)),p_ 5 103 (f_ 0 7),r_ 6 104 (l_ 103),p_ 7 105 (f_ 1 7),r_ 8 106 (l_ 105),p_ 9 107 (f_ 2 7),r_ 10 108 (l_ 107),p_ 11 109 (.bld [.int 0 (.ofNat 0),.int 0 (.ofNat 0),.bool false] [(0,1),(1,1),(2,1)] [.t 104,.t 106,.t 108]),p_ 12 110 (.eqs true 2 (.st [(0,1,false,.int),(1,1,false,.int),(2,1,false,.bool)]) (.t 102) (.t 109))]) (.cond (.t 110) (.seq (g_ 1 [p_ 0 4 (.mv (.c (.bool false)))]) .ret) .skip)))) (g_ 3 [p_ 0 90 (m_ 6),p_ 1 91 (.bin 0 0 (.t 90) (i_ 1)),p_ 2 6 (m_ 91)]))) [(0,[.can 0 [2,3,5,6]]),(1,[.can 0 [4]]),(2,[.can 0 [2,3]])])
def Au:XC:=(.aft (.seq (.seq (g_ 5 [p_ 0 111 (m_ 8),p_ 1 112 (f_ 8 2),r_ 2 113 (l_ 112),p_ 3 114 (k_ 113),p_ 4 115 (.bin 3 0 (.t 111) (.t 114))]) (.cond (.t 115) .skip (.exit 4))) (.seq (.block 5 (.seq (g_ 7 [p_ 0 118 (f_ 8 2),r_ 1 119 (l_ 118),p_ 2 120 (m_ 8),p_ 3 121 (.ixs 9 (.t 119) (.t 120)),r_ 4 122 (.ld true 9 (.t 121)),e_ 5 9 (.al 54 [.int 0 (.ofNat 0),.int 0 (.ofNat 0),.int 0 (.ofNat 0),.int 0 (.ofNat 0),.int 0 (.ofNat 0),.int 0 (.ofNat 0),.int 3 (.ofNat 0),.int 1 (.ofNat 0),.nilS]),bd 6 (.st 9 (.t 9) (.t 122))]) (.seq (h_ 27 [p_ 0 123 (f_ 0 9),r_ 1 124 (l_ 123),p_ 2 125 (f_ 1 9),r_ 3 126 (l_ 125),p_ 4 127 (f_ 2 9),r_ 5 128 (l_ 127),p_ 6 129 (f_ 3 9),r_ 7 130 (l_ 129),p_ 8 131 (f_ 4 9),r_ 9 132 (l_ 131),p_ 10 133 (f_ 5 9),r_ 11 134 (l_ 133),p_ 12 135 (f_ 6 9),r_ 13 136 (l_ 135),p_ 14 137 (f_ 7 9),r_ 15 138 (l_ 137),p_ 16 139 (f_ 8 9),r_ 17 140 (l_ 139),p_ 20 143 (f_ 8 3),r_ 21 144 (l_ 143),p_ 22 145 (m_ 8),p_ 23 146 (.ixs 9 (.t 144) (.t 145)),r_ 24 147 (.ld true 9 (.t 146)),c_ 18 141 27 [.t 140],a_ 1 124 (l_ 123),a_ 3 126 (l_ 125),a_ 5 128 (l_ 127),a_ 7 130 (l_ 129),a_ 9 132 (l_ 131),a_ 11 134 (l_ 133),a_ 13 136 (l_ 135),a_ 15 138 (l_ 137),a_ 21 144 (l_ 143),a_ 24 147 (.ld true 9 (.t 146)),p_ 19 142 (.bld [.int 0 (.ofNat 0),.int 0 (.ofNat 0),.int 0 (.ofNat 0),.int 0 (.ofNat 0),.int 0 (.ofNat 0),.int 0 (.ofNat 0),.int 3 (.ofNat 0),.int 1 (.ofNat 0),.nilS] [(0,1),(1,1),(2,1),(3,1),(4,1),(5,1),(6,1),(7,1),(8,1)] [.t 124,.t 126,.t 128,.t 130,.t 132,.t 134,.t 136,.t 138,.t 141]),c_ 25 148 26 [.t 142,.t 147],p_ 26 149 (.un 0 (.t 148))]) (.cond (.t 149) (.seq (g_ 1 [p_ 0 4 (.mv (.c (.bool false)))]) .ret) .skip)))) (g_ 3 [p_ 0 116 (m_ 8),p_ 1 117 (.bin 0 0 (.t 116) (i_ 1)),p_ 2 8 (m_ 117)]))) [(0,[.can 0 [2,3,8]]),(1,[.can 0 [4]]),(4,[.can 0 []])])
def HL:XF:=.mk 150 (.one 4) (.aft (.seq (g_ 3 [e_ 0 2 (.box 29 (.t 0)),e_ 1 3 (.box 37 (.t 1)),p_ 2 4 (.mv (.c (.bool false)))]) (.seq (g_ 4 [p_ 0 10 (f_ 0 2),r_ 1 11 (.ld true 8 (.t 10)),e_ 2 5 (.al 26 [.nilS,.int 0 (.ofNat 0),.int 0 (.ofNat 0),.int 0 (.ofNat 0),.int 0 (.ofNat 0),.int 0 (.ofNat 0),.int 0 (.ofNat 0),.int 4 (.ofNat 0)]),bd 3 (.st 8 (.t 5) (.t 11))]) (.seq (.seq (g_ 73 [p_ 0 12 (f_ 8 2),r_ 1 13 (l_ 12),p_ 2 14 (k_ 13),p_ 3 15 (f_ 8 3),r_ 4 16 (l_ 15),p_ 5 17 (k_ 16),p_ 6 18 (.bin 3 5 (.t 14) (.t 17)),p_ 7 19 (m_ 18),au 8 20 19 false (f_ 0 5),aY 9 21 19 false (l_ 20),au 10 22 19 false (k_ 21),au 11 23 19 false (f_ 0 3),au 12 24 19 false (f_ 0 23),aY 13 25 19 false (l_ 24),au 14 26 19 false (k_ 25),au 15 27 19 false (.bin 3 5 (.t 22) (.t 26)),p_ 16 28 (.pick (.t 19) (.c (.bool true)) (.t 27)),p_ 17 29 (m_ 28),au 18 30 29 false (f_ 1 5),aY 19 31 29 false (l_ 30),au 20 32 29 false (f_ 0 3),au 21 33 29 false (f_ 1 32),aY 22 34 29 false (l_ 33),au 23 35 29 false (.bin 3 5 (.t 31) (.t 34)),p_ 24 36 (.pick (.t 29) (.c (.bool true)) (.t 35)),p_ 25 37 (m_ 36),au 26 38 37 false (f_ 2 5),aY 27 39 37 false (l_ 38),au 28 40 37 false (f_ 0 3),au 29 41 37 false (f_ 2 40),aY 30 42 37 false (l_ 41),au 31 43 37 false (.bin 3 5 (.t 39) (.t 42)),p_ 32 44 (.pick (.t 37) (.c (.bool true)) (.t 43)),p_ 33 45 (m_ 44),au 34 46 45 false (f_ 3 5),aY 35 47 45 false (l_ 46),au 36 48 45 false (f_ 0 3),au 37 49 45 false (f_ 3 48),aY 38 50 45 false (l_ 49),au 39 51 45 false (.bin 3 5 (.t 47) (.t 50)),p_ 40 52 (.pick (.t 45) (.c (.bool true)) (.t 51)),p_ 41 53 (m_ 52),au 42 54 53 false (f_ 4 5),aY 43 55 53 false (l_ 54),au 44 56 53 false (f_ 0 3),au 45 57 53 false (f_ 4 56),aY 46 58 53 false (l_ 57),au 47 59 53 false (.bin 3 5 (.t 55) (.t 58)),p_ 48 60 (.pick (.t 53) (.c (.bool true)) (.t 59)),p_ 49 61 (m_ 60),au 50 62 61 false (f_ 5 5),aY 51 63 61 false (l_ 62),au 52 64 61 false (f_ 0 3),au 53 65 61 false (f_ 5 64),aY 54 66 61 false (l_ 65),au 55 67 61 false (.bin 3 5 (.t 63) (.t 66)),p_ 56 68 (.pick (.t 61) (.c (.bool true)) (.t 67)),p_ 57 69 (m_ 68),au 58 70 69 false (f_ 6 5),aY 59 71 69 false (l_ 70),au 60 72 69 false (f_ 0 3),au 61 73 69 false (f_ 6 72),aY 62 74 69 false (l_ 73),au 63 75 69 false (.bin 3 5 (.t 71) (.t 74)),p_ 64 76 (.pick (.t 69) (.c (.bool true)) (.t 75)),p_ 65 77 (m_ 76),au 66 78 77 false (f_ 7 5),aY 67 79 77 false (l_ 78),au 68 80 77 false (f_ 0 3),au 69 81 77 false (f_ 7 80),aY 70 82 77 false (l_ 81),au 71 83 77 false (.bin 3 5 (.t 79) (.t 82)),p_ 72 84 (.pick (.t 77) (.c (.bool true)) (.t 83))]) (.cond (.t 84) (.seq (g_ 1 [p_ 0 4 (.mv (.c (.bool false)))]) .ret) .skip)) (.seq (.seq (g_ 1 [p_ 0 6 (.mv (i_ 0))]) (.block 2 (.pre [.can 0 [2,3,5,6],.up 6,.can 0 [2,3,5,6]] (.inv 0 Av)))) (.seq (.seq (g_ 1 [p_ 0 8 (.mv (i_ 0))]) (.block 4 (.pre [.can 0 [2,3,8],.up 8,.can 0 [2,3,8]] (.inv 1 Au)))) (.seq (g_ 1 [p_ 0 4 (.mv (.c (.bool true)))]) .ret)))))) [(0,[.up 4]),(1,[.up 4])])
theorem Ji:ci Tryz.prog 8 HL=true:=by kernel_rfl
structure fS where
 a:vA
 b:vA
 i:Int
def Gc (p:fS):Prop:=p.a.gs=p.b.gs
def DS (p:fS):Prop:=¬p.a.gs=p.b.gs
noncomputable def kG (p:fS):IL:=((.cons 6 (.sy (.int 0 p.i)) (.cons 5 (.ptr 2 0) (.cons 3 (.ptr 1 0) (.cons 2 (.ptr 0 0) .nil)))),(.node (.node .leaf (some (.blk false 37 9 [[.sy (.imm p.b.hg 3 aM p.b.gs aT),.sy (.int 0 p.b.clients),.sy (.int 0 p.b.window),.sy (.int 0 p.b.deadline),.sy (.int 0 p.b.pace),.sy (.int 0 p.b.again),.sy (.int 0 p.b.bag),.sy (.int 4 p.b.first),.sy (.imm p.b.ho 9 aI p.b.os aV)]])) .leaf) (some (.blk false 29 9 [[.sy (.imm p.a.hg 3 aM p.a.gs aT),.sy (.int 0 p.a.clients),.sy (.int 0 p.a.window),.sy (.int 0 p.a.deadline),.sy (.int 0 p.a.pace),.sy (.int 0 p.a.again),.sy (.int 0 p.a.bag),.sy (.int 4 p.a.first),.sy (.imm p.a.ho 9 aI p.a.os aV)]])) (.node .leaf (some (.blk false 26 8 [[.sy (.imm p.a.hg 3 aM p.a.gs aT),.sy (.int 0 p.a.clients),.sy (.int 0 p.a.window),.sy (.int 0 p.a.deadline),.sy (.int 0 p.a.pace),.sy (.int 0 p.a.again),.sy (.int 0 p.a.bag),.sy (.int 4 p.a.first)]])) .leaf)),3)
noncomputable def we (p:fS) (K:KC):Bool:=ac (iP (Gc p) (K 2 (.cons 3 (.ptr 1 0) (.cons 2 (.ptr 0 0) .nil)) (.node (.node .leaf (some (.blk false 37 9 [[.sy (.imm p.b.hg 3 aM p.b.gs aT),.sy (.int 0 p.b.clients),.sy (.int 0 p.b.window),.sy (.int 0 p.b.deadline),.sy (.int 0 p.b.pace),.sy (.int 0 p.b.again),.sy (.int 0 p.b.bag),.sy (.int 4 p.b.first),.sy (.imm p.b.ho 9 aI p.b.os aV)]])) .leaf) (some (.blk false 29 9 [[.sy (.imm p.a.hg 3 aM p.a.gs aT),.sy (.int 0 p.a.clients),.sy (.int 0 p.a.window),.sy (.int 0 p.a.deadline),.sy (.int 0 p.a.pace),.sy (.int 0 p.a.again),.sy (.int 0 p.a.bag),.sy (.int 4 p.a.first),.sy (.imm p.a.ho 9 aI p.a.os aV)]])) .leaf) 2) true) (iP (DS p) (K 1 (.cons 4 (.bool false) .nil) .leaf 0) true)
def jE (p:fS):Prop:=p.a.gs.length=p.b.gs.length∧0≤p.i∧p.i≤(p.a.gs.length:Int)∧p.a.gs.length≤10∧(p.a.gs.take p.i.toNat).map id=(p.b.gs.take p.i.toNat).map id
noncomputable def tM (p:fS) (K:KC):Bool:=ac (aC (jE p)) (we p K)
structure fR where
 a:vA
 b:vA
 i:Int
def Gb (p:fR):Prop:=p.a.os.map cx=p.b.os.map cx
def DR (p:fR):Prop:=¬p.a.os.map cx=p.b.os.map cx
noncomputable def kF (p:fR):IL:=((.cons 8 (.sy (.int 0 p.i)) (.cons 3 (.ptr 1 0) (.cons 2 (.ptr 0 0) .nil))),(.node (.node .leaf (some (.blk false 37 9 [[.sy (.imm p.b.hg 3 aM p.b.gs aT),.sy (.int 0 p.b.clients),.sy (.int 0 p.b.window),.sy (.int 0 p.b.deadline),.sy (.int 0 p.b.pace),.sy (.int 0 p.b.again),.sy (.int 0 p.b.bag),.sy (.int 4 p.b.first),.sy (.imm p.b.ho 9 aI p.b.os aV)]])) .leaf) (some (.blk false 29 9 [[.sy (.imm p.a.hg 3 aM p.a.gs aT),.sy (.int 0 p.a.clients),.sy (.int 0 p.a.window),.sy (.int 0 p.a.deadline),.sy (.int 0 p.a.pace),.sy (.int 0 p.a.again),.sy (.int 0 p.a.bag),.sy (.int 4 p.a.first),.sy (.imm p.a.ho 9 aI p.a.os aV)]])) .leaf),2)
noncomputable def wc (p:fR) (K:KC):Bool:=ac (iP (Gb p) (K 4 .nil .leaf 0) true) (iP (DR p) (K 1 (.cons 4 (.bool false) .nil) .leaf 0) true)
def jD (p:fR):Prop:=p.a.os.length=p.b.os.length∧0≤p.i∧p.i≤(p.a.os.length:Int)∧Gt p.a.os∧Gt p.b.os∧(p.a.os.take p.i.toNat).map cx=(p.b.os.take p.i.toNat).map cx
noncomputable def tL (p:fR) (K:KC):Bool:=ac (aC (jD p)) (wc p K)
noncomputable def nE:gO:=fun j S M nx K=>(Bool.rec ((Bool.rec (false) (aN fun p:fR=>ac (aC ((S,M,nx)=kF p)) (tL p K)) (Nat.beq j 1))) (aN fun p:fS=>ac (aC ((S,M,nx)=kG p)) (tM p K)) (Nat.beq j 0))
def gZ (p:fS):Nat:=((p.a.gs.length:Int) - p.i).toNat
noncomputable def Ay (s:IL) (n:Nat) (K:KC):Bool:=aN fun q=>mP (s=kG q∧gZ q<n) (tM q K)
theorem Is {p q:fS} {K:KC} {s:IL} (hm:gZ q<gZ p:=by dsimp only[gZ]<;>(omega)) (hp:jE q:=by dsimp only[jE]<;>(refine⟨g0,by omega,by omega,g3,rf (by omega) g4 hi3 hi2 ?_⟩;show x2=x1;obtain⟨⟩:=x1;obtain⟨⟩:=x2;simp_all)) (hK:we q K=true:=by exact hK) (e:s=kG q:=by rfl):Ay s (gZ p) K=true:=bj q (bl ⟨e,hm⟩ (bl hp hK))
theorem Pe (p:fS) (K:KC) (hpre:jE p) (hK:we p K=true):(df (cj kY) nE 600 Av (kG p).1 (kG p).2.1 (kG p).2.2 (fun e S M nx=>Nat.casesOn e (aN fun q:fS=>ac (aC ((S,M,nx)=kG q∧gZ q<gZ p)) (tM q K)) (fun e2=>K (Nat.succ e2) S M nx)))=true:=by
 refine Eq.trans (b:=(let z1:Bool:=(K 1 (.cons 4 (.bool false) .nil) .leaf 0);iP (p.i<(p.a.gs.length:Int)) (mP (0≤p.i∧p.i<(p.b.gs.length:Int)) (ai fun x1:aM=>iP (p.b.gs[p.i.toNat]?=some x1) (mP (0≤p.i∧p.i<(p.a.gs.length:Int)) (ai fun x2:aM=>iP (p.a.gs[p.i.toNat]?=some x2) (iP (x2.f=x1.f) (iP (x2.s=x1.s) (iP (x2.c) (iP (x1.c) (mP (bb 0 (p.i+(1:Int))) (Ay ((.cons 6 (.sy (.int 0 (p.i+(1:Int)))) (.cons 5 (.ptr 2 0) (.cons 3 (.ptr 1 0) (.cons 2 (.ptr 0 0) .nil)))),(.node (.node .leaf (some (.blk false 37 9 [[.sy (.imm p.b.hg 3 aM p.b.gs aT),.sy (.int 0 p.b.clients),.sy (.int 0 p.b.window),.sy (.int 0 p.b.deadline),.sy (.int 0 p.b.pace),.sy (.int 0 p.b.again),.sy (.int 0 p.b.bag),.sy (.int 4 p.b.first),.sy (.imm p.b.ho 9 aI p.b.os aV)]])) .leaf) (some (.blk false 29 9 [[.sy (.imm p.a.hg 3 aM p.a.gs aT),.sy (.int 0 p.a.clients),.sy (.int 0 p.a.window),.sy (.int 0 p.a.deadline),.sy (.int 0 p.a.pace),.sy (.int 0 p.a.again),.sy (.int 0 p.a.bag),.sy (.int 4 p.a.first),.sy (.imm p.a.ho 9 aI p.a.os aV)]])) (.node .leaf (some (.blk false 26 8 [[.sy (.imm p.a.hg 3 aM p.a.gs aT),.sy (.int 0 p.a.clients),.sy (.int 0 p.a.window),.sy (.int 0 p.a.deadline),.sy (.int 0 p.a.pace),.sy (.int 0 p.a.again),.sy (.int 0 p.a.bag),.sy (.int 4 p.a.first)]])) .leaf)),3) (gZ p) K)) z1) (iP (x1.c) z1 (mP (bb 0 (p.i+(1:Int))) (Ay ((.cons 6 (.sy (.int 0 (p.i+(1:Int)))) (.cons 5 (.ptr 2 0) (.cons 3 (.ptr 1 0) (.cons 2 (.ptr 0 0) .nil)))),(.node (.node .leaf (some (.blk false 37 9 [[.sy (.imm p.b.hg 3 aM p.b.gs aT),.sy (.int 0 p.b.clients),.sy (.int 0 p.b.window),.sy (.int 0 p.b.deadline),.sy (.int 0 p.b.pace),.sy (.int 0 p.b.again),.sy (.int 0 p.b.bag),.sy (.int 4 p.b.first),.sy (.imm p.b.ho 9 aI p.b.os aV)]])) .leaf) (some (.blk false 29 9 [[.sy (.imm p.a.hg 3 aM p.a.gs aT),.sy (.int 0 p.a.clients),.sy (.int 0 p.a.window),.sy (.int 0 p.a.deadline),.sy (.int 0 p.a.pace),.sy (.int 0 p.a.again),.sy (.int 0 p.a.bag),.sy (.int 4 p.a.first),.sy (.imm p.a.ho 9 aI p.a.os aV)]])) (.node .leaf (some (.blk false 26 8 [[.sy (.imm p.a.hg 3 aM p.a.gs aT),.sy (.int 0 p.a.clients),.sy (.int 0 p.a.window),.sy (.int 0 p.a.deadline),.sy (.int 0 p.a.pace),.sy (.int 0 p.a.again),.sy (.int 0 p.a.bag),.sy (.int 4 p.a.first)]])) .leaf)),3) (gZ p) K)))) z1) z1) true)) true)) (K 2 (.cons 3 (.ptr 1 0) (.cons 2 (.ptr 0 0) .nil)) (.node (.node .leaf (some (.blk false 37 9 [[.sy (.imm p.b.hg 3 aM p.b.gs aT),.sy (.int 0 p.b.clients),.sy (.int 0 p.b.window),.sy (.int 0 p.b.deadline),.sy (.int 0 p.b.pace),.sy (.int 0 p.b.again),.sy (.int 0 p.b.bag),.sy (.int 4 p.b.first),.sy (.imm p.b.ho 9 aI p.b.os aV)]])) .leaf) (some (.blk false 29 9 [[.sy (.imm p.a.hg 3 aM p.a.gs aT),.sy (.int 0 p.a.clients),.sy (.int 0 p.a.window),.sy (.int 0 p.a.deadline),.sy (.int 0 p.a.pace),.sy (.int 0 p.a.again),.sy (.int 0 p.a.bag),.sy (.int 4 p.a.first),.sy (.imm p.a.ho 9 aI p.a.os aV)]])) .leaf) 2))) (by kernel_rfl) ?_
 obtain⟨hK0,hKr0⟩:=aj hK
 have hK1:=hKr0
 dsimp only[jE]at hpre
 obtain⟨g0,g1,g2,g3,g4⟩:=hpre
 refine iI (fun hc1=> ?_) (fun hc1=> ?_)
 refine bC ?_
 refine am (fun x1=> ?_)
 refine iI (fun hi2=> ?_) (fun _=>rfl)
 refine bC ?_
 refine am (fun x2=> ?_)
 refine iI (fun hi3=> ?_) (fun _=>rfl)
 refine iI (fun hc4=> ?_) (fun hc4=> ?_)
 refine iI (fun hc5=> ?_) (fun hc5=> ?_)
 refine iI (fun hc6=> ?_) (fun hc6=> ?_)
 refine iI (fun hc7=> ?_) (fun hc7=> ?_)
 refine fe ?_
 exact Is (q:=⟨p.a,p.b,p.i+(1:Int)⟩)
 exact aq (show¬p.a.gs=p.b.gs from(by intro e;rw[e]at hi3;have e2:=aaZ (hi3.symm.trans hi2);subst e2;first|contradiction|omega|simp_all)) hK1
 refine iI (fun hc8=> ?_) (fun hc8=> ?_)
 exact aq (show¬p.a.gs=p.b.gs from(by intro e;rw[e]at hi3;have e2:=aaZ (hi3.symm.trans hi2);subst e2;first|contradiction|omega|simp_all)) hK1
 refine fe ?_
 exact Is (q:=⟨p.a,p.b,p.i+(1:Int)⟩)
 exact aq (show¬p.a.gs=p.b.gs from(by intro e;rw[e]at hi3;have e2:=aaZ (hi3.symm.trans hi2);subst e2;first|contradiction|omega|simp_all)) hK1
 exact aq (show¬p.a.gs=p.b.gs from(by intro e;rw[e]at hi3;have e2:=aaZ (hi3.symm.trans hi2);subst e2;first|contradiction|omega|simp_all)) hK1
 exact aq (show p.a.gs=p.b.gs from(by have e:=tF g4 (by omega) (by omega);simpa using e)) hK0
theorem Qp:dR Tryz.prog 150 0 nE true 0 Av:=by
 exact gm (lf:=600) bH (aQ kr) (by rfl) kG gZ tM (fun b j x h=>by cases h) (fun S M nx K h=>by obtain⟨p,h⟩:=bR h;exact⟨p,(aa h).1,(aa h).2⟩) (fun p K h=>Pe p K (aa h).1 (aa h).2)
def iO (p:fR):Nat:=((p.a.os.length:Int) - p.i).toNat
noncomputable def Ix (s:IL) (n:Nat) (K:KC):Bool:=aN fun q=>mP (s=kF q∧iO q<n) (tL q K)
theorem QX {p q:fR} {K:KC} {s:IL} (hm:iO q<iO p:=by dsimp only[iO]<;>(omega)) (hp:jD q:=by dsimp only[jD]<;>(refine⟨g0,by omega,by omega,g3,g4,rf (by omega) g5 hi2 hi3 (by have e:=hi5.1 (Classical.not_not.1 (by assumption));rw[←e];simp only[cx,hi4])⟩)) (hK:wc q K=true:=by exact hK) (e:s=kF q:=by rfl):Ix s (iO p) K=true:=bj q (bl ⟨e,hm⟩ (bl hp hK))
theorem Pd (p:fR) (K:KC) (hpre:jD p) (hK:wc p K=true):(df (cj kY) nE 600 Au (kF p).1 (kF p).2.1 (kF p).2.2 (fun e S M nx=>Nat.casesOn e (aN fun q:fR=>ac (aC ((S,M,nx)=kF q∧iO q<iO p)) (tL q K)) (fun e2=>K (Nat.succ e2) S M nx)))=true:=by
 refine Eq.trans (b:=(iP (p.i<(p.a.os.length:Int)) (mP (0≤p.i∧p.i<(p.a.os.length:Int)) (ai fun x1:aI=>iP (p.a.os[p.i.toNat]?=some x1) (mP (0≤p.i∧p.i<(p.b.os.length:Int)) (ai fun x2:aI=>iP (p.b.os[p.i.toNat]?=some x2) (aH (([.sy (.imm x1.hp 5 aB x1.ps aF)],.leaf,0)) qT mC ot fun p1 r1=>mP (((.int 0 x1.kind):SY)=(.int 0 x1.kind)) (mP (((.int 0 x1.x):SY)=(.int 0 x1.x)) (mP (((.int 0 x1.y):SY)=(.int 0 x1.y)) (mP (((.int 0 x1.i):SY)=(.int 0 x1.i)) (mP (((.int 0 x1.at_):SY)=(.int 0 x1.at_)) (mP (((.int 0 x1.mode):SY)=(.int 0 x1.mode)) (mP (((.int 3 x1.mask):SY)=(.int 3 x1.mask)) (mP (((.int 1 x1.grp):SY)=(.int 1 x1.grp)) (mP (((.imm p.b.ho 9 aI p.b.os aV):SY)=(.imm p.b.ho 9 aI p.b.os aV)) (ac (qL [qI 0 x2.kind,qI 0 x2.x,qI 0 x2.y,qI 0 x2.i,qI 0 x2.at_,qI 0 x2.mode,qI 3 x2.mask,qI 1 x2.grp,qY ((.imm x2.hp 5 aB x2.ps aF))]) (aH (([.agg [.sy (.int 0 x1.kind),.sy (.int 0 x1.x),.sy (.int 0 x1.y),.sy (.int 0 x1.i),.sy (.int 0 x1.at_),.sy (.int 0 x1.mode),.sy (.int 3 x1.mask),.sy (.int 1 x1.grp),.sy (.imm r1.h 5 aB r1.o aF)],.agg [.sy (.int 0 x2.kind),.sy (.int 0 x2.x),.sy (.int 0 x2.y),.sy (.int 0 x2.i),.sy (.int 0 x2.at_),.sy (.int 0 x2.mode),.sy (.int 3 x2.mask),.sy (.int 1 x2.grp),.sy (.imm x2.hp 5 aB x2.ps aF)]],.leaf,0)) oI kV dB fun p2 r2=>iP (¬r2.q) (K 1 (.cons 4 (.bool false) .nil) .leaf 0) (mP (bb 0 (p.i+(1:Int))) (Ix ((.cons 8 (.sy (.int 0 (p.i+(1:Int)))) (.cons 3 (.ptr 1 0) (.cons 2 (.ptr 0 0) .nil))),(.node (.node .leaf (some (.blk false 37 9 [[.sy (.imm p.b.hg 3 aM p.b.gs aT),.sy (.int 0 p.b.clients),.sy (.int 0 p.b.window),.sy (.int 0 p.b.deadline),.sy (.int 0 p.b.pace),.sy (.int 0 p.b.again),.sy (.int 0 p.b.bag),.sy (.int 4 p.b.first),.sy (.imm p.b.ho 9 aI p.b.os aV)]])) .leaf) (some (.blk false 29 9 [[.sy (.imm p.a.hg 3 aM p.a.gs aT),.sy (.int 0 p.a.clients),.sy (.int 0 p.a.window),.sy (.int 0 p.a.deadline),.sy (.int 0 p.a.pace),.sy (.int 0 p.a.again),.sy (.int 0 p.a.bag),.sy (.int 4 p.a.first),.sy (.imm p.a.ho 9 aI p.a.os aV)]])) .leaf),2) (iO p) K))))))))))))) true)) true)) (K 4 .nil .leaf 0))) (by kernel_rfl) ?_
 obtain⟨hK0,hKr0⟩:=aj hK
 have hK1:=hKr0
 dsimp only[jD]at hpre
 obtain⟨g0,g1,g2,g3,g4,g5⟩:=hpre
 have g8:=g3.1
 refine iI (fun hc1=> ?_) (fun hc1=> ?_)
 refine bC ?_
 refine am (fun x1=> ?_)
 refine iI (fun hi2=> ?_) (fun _=>rfl)
 first|have hm_x1:=g3.2 _ x1 (by assumption)|have hm_x1:=g4.2 _ x1 (by assumption)
 refine bC ?_
 refine am (fun x2=> ?_)
 refine iI (fun hi3=> ?_) (fun _=>rfl)
 first|have hm_x2:=g3.2 _ x2 (by assumption)|have hm_x2:=g4.2 _ x2 (by assumption)
 refine ay (⟨x1.hp,x1.ps⟩:lJ) rfl (by(try dsimp only[mC]);omega) fun r1 hi4=> ?_
 dsimp only[ot]at hi4
 refine bi (bi (bi (bi (bi (bi (bi (bi (bi ?_))))))))
 refine aE (by simp[qL,qI,qS,qY,aC]) ?_
 refine ay (⟨({x1 with hp:=r1.h,ps:=r1.o}:aI),x2⟩:jZ) rfl (by(try dsimp only[kV]);refine⟨?_,?_⟩<;>first|omega|(rw[hi4];omega)) fun r2 hi5=> ?_
 dsimp only[dB]at hi5
 refine iI (fun hc6=> ?_) (fun hc6=> ?_)
 exact aq (show¬p.a.os.map cx=p.b.os.map cx from(by exact Si hi2 hi3 (fun e=>absurd (hi5.2 (by rw[←e];simp only[cx,hi4])) (by assumption)))) hK1
 refine fe ?_
 exact QX (q:=⟨p.a,p.b,p.i+(1:Int)⟩)
 exact aq (show p.a.os.map cx=p.b.os.map cx from(by exact tF g5 (by omega) (by omega))) hK0
theorem Qo:dR Tryz.prog 150 0 nE true 1 Au:=by
 exact gm (lf:=600) bH (aQ kr) (by rfl) kF iO tL (fun b j x h=>by cases h) (fun S M nx K h=>by obtain⟨p,h⟩:=bR h;exact⟨p,(aa h).1,(aa h).2⟩) (fun p K h=>Pd p K (aa h).1 (aa h).2)
structure mp where
 a:vA
 b:vA
structure DE where
 q:Prop
def dl (p:mp) (r:DE):Prop:=r.q↔lP p.a=lP p.b
noncomputable def pP (p:mp):IE:=([.agg [.sy (.imm p.a.hg 3 aM p.a.gs aT),.sy (.int 0 p.a.clients),.sy (.int 0 p.a.window),.sy (.int 0 p.a.deadline),.sy (.int 0 p.a.pace),.sy (.int 0 p.a.again),.sy (.int 0 p.a.bag),.sy (.int 4 p.a.first),.sy (.imm p.a.ho 9 aI p.a.os aV)],.agg [.sy (.imm p.b.hg 3 aM p.b.gs aT),.sy (.int 0 p.b.clients),.sy (.int 0 p.b.window),.sy (.int 0 p.b.deadline),.sy (.int 0 p.b.pace),.sy (.int 0 p.b.again),.sy (.int 0 p.b.bag),.sy (.int 4 p.b.first),.sy (.imm p.b.ho 9 aI p.b.os aV)]],.leaf,0)
noncomputable def vX (p:mp) (K:KE):Bool:=ai fun r:DE=>iP (dl p r) (K (.sy (.bool r.q)) .leaf 0) true
def jz (p:mp):Prop:=Gt p.a.os∧Gt p.b.os∧p.a.gs.length≤10∧p.b.gs.length≤10
theorem eH {p:mp} {K:KE} (hK:vX p K=true) (r:DE) (h:dl p r):K (.sy (.bool r.q)) .leaf 0=true:=aq h (az hK r)
theorem OU (p:mp) (K:KE) (hpre:jz p) (hK:vX p K=true):(cw 0 (cj kY) nE 600 HL (pP p).1 (pP p).2.1 (pP p).2.2 K)=true:=by
 refine Eq.trans (b:=(let z0:Bool:=(K (.sy (.bool (false=true))) .leaf 0);iP (¬(p.a.os.length:Int)=(p.b.os.length:Int)) z0 (iP (¬(p.a.gs.length:Int)=(p.b.gs.length:Int)) z0 (iP (¬p.a.clients=p.b.clients) z0 (iP (¬p.a.window=p.b.window) z0 (iP (¬p.a.deadline=p.b.deadline) z0 (iP (¬p.a.pace=p.b.pace) z0 (iP (¬p.a.again=p.b.again) z0 (iP (¬p.a.bag=p.b.bag) z0 (iP (¬p.a.first=p.b.first) z0 (aN fun p1:fS=>mP (((.cons 6 (.sy (.int 0 0)) (.cons 5 (.ptr 2 0) (.cons 3 (.ptr 1 0) (.cons 2 (.ptr 0 0) .nil)))),(.node (.node .leaf (some (.blk false 37 9 [[.sy (.imm p.b.hg 3 aM p.b.gs aT),.sy (.int 0 p.b.clients),.sy (.int 0 p.b.window),.sy (.int 0 p.b.deadline),.sy (.int 0 p.b.pace),.sy (.int 0 p.b.again),.sy (.int 0 p.b.bag),.sy (.int 4 p.b.first),.sy (.imm p.b.ho 9 aI p.b.os aV)]])) .leaf) (some (.blk false 29 9 [[.sy (.imm p.a.hg 3 aM p.a.gs aT),.sy (.int 0 p.a.clients),.sy (.int 0 p.a.window),.sy (.int 0 p.a.deadline),.sy (.int 0 p.a.pace),.sy (.int 0 p.a.again),.sy (.int 0 p.a.bag),.sy (.int 4 p.a.first),.sy (.imm p.a.ho 9 aI p.a.os aV)]])) (.node .leaf (some (.blk false 26 8 [[.sy (.imm p.a.hg 3 aM p.a.gs aT),.sy (.int 0 p.a.clients),.sy (.int 0 p.a.window),.sy (.int 0 p.a.deadline),.sy (.int 0 p.a.pace),.sy (.int 0 p.a.again),.sy (.int 0 p.a.bag),.sy (.int 4 p.a.first)]])) .leaf)),3)=kG p1) (mP (jE p1) (ac (iP (Gc p1) (aN fun p2:fR=>mP (((.cons 8 (.sy (.int 0 0)) (.cons 3 (.ptr 1 0) (.cons 2 (.ptr 0 0) .nil))),(.node (.node .leaf (some (.blk false 37 9 [[.sy (.imm p1.b.hg 3 aM p1.b.gs aT),.sy (.int 0 p1.b.clients),.sy (.int 0 p1.b.window),.sy (.int 0 p1.b.deadline),.sy (.int 0 p1.b.pace),.sy (.int 0 p1.b.again),.sy (.int 0 p1.b.bag),.sy (.int 4 p1.b.first),.sy (.imm p1.b.ho 9 aI p1.b.os aV)]])) .leaf) (some (.blk false 29 9 [[.sy (.imm p1.a.hg 3 aM p1.a.gs aT),.sy (.int 0 p1.a.clients),.sy (.int 0 p1.a.window),.sy (.int 0 p1.a.deadline),.sy (.int 0 p1.a.pace),.sy (.int 0 p1.a.again),.sy (.int 0 p1.a.bag),.sy (.int 4 p1.a.first),.sy (.imm p1.a.ho 9 aI p1.a.os aV)]])) .leaf),2)=kF p2) (mP (jD p2) (ac (iP (Gb p2) (K (.sy (.bool (true=true))) .leaf 0) true) (iP (DR p2) z0 true)))) true) (iP (DS p1) z0 true)))))))))))))) (by kernel_rfl) ?_
 dsimp only[jz]at hpre
 obtain⟨u1,u2,u3,u4⟩:=hpre
 refine iI (fun hc1=> ?_) (fun hc1=> ?_)
 exact eH hK ⟨false=true⟩ (by dsimp only[dl]<;>(simp only[lP,aa1];first|(simp_all;done)|(refine Iff.intro (fun h=>(by cases h)) (fun h=> ?_);exfalso;have e1:=congrArg List.length h.1;have e2:=congrArg List.length h.2.2.2;simp only[aaE]at e2;omega)))
 refine iI (fun hc2=> ?_) (fun hc2=> ?_)
 exact eH hK ⟨false=true⟩ (by dsimp only[dl]<;>(simp only[lP,aa1];first|(simp_all;done)|(refine Iff.intro (fun h=>(by cases h)) (fun h=> ?_);exfalso;have e1:=congrArg List.length h.1;have e2:=congrArg List.length h.2.2.2;simp only[aaE]at e2;omega)))
 refine iI (fun hc3=> ?_) (fun hc3=> ?_)
 exact eH hK ⟨false=true⟩ (by dsimp only[dl]<;>(simp only[lP,aa1];first|(simp_all;done)|(refine Iff.intro (fun h=>(by cases h)) (fun h=> ?_);exfalso;have e1:=congrArg List.length h.1;have e2:=congrArg List.length h.2.2.2;simp only[aaE]at e2;omega)))
 refine iI (fun hc4=> ?_) (fun hc4=> ?_)
 exact eH hK ⟨false=true⟩ (by dsimp only[dl]<;>(simp only[lP,aa1];first|(simp_all;done)|(refine Iff.intro (fun h=>(by cases h)) (fun h=> ?_);exfalso;have e1:=congrArg List.length h.1;have e2:=congrArg List.length h.2.2.2;simp only[aaE]at e2;omega)))
 refine iI (fun hc5=> ?_) (fun hc5=> ?_)
 exact eH hK ⟨false=true⟩ (by dsimp only[dl]<;>(simp only[lP,aa1];first|(simp_all;done)|(refine Iff.intro (fun h=>(by cases h)) (fun h=> ?_);exfalso;have e1:=congrArg List.length h.1;have e2:=congrArg List.length h.2.2.2;simp only[aaE]at e2;omega)))
 refine iI (fun hc6=> ?_) (fun hc6=> ?_)
 exact eH hK ⟨false=true⟩ (by dsimp only[dl]<;>(simp only[lP,aa1];first|(simp_all;done)|(refine Iff.intro (fun h=>(by cases h)) (fun h=> ?_);exfalso;have e1:=congrArg List.length h.1;have e2:=congrArg List.length h.2.2.2;simp only[aaE]at e2;omega)))
 refine iI (fun hc7=> ?_) (fun hc7=> ?_)
 exact eH hK ⟨false=true⟩ (by dsimp only[dl]<;>(simp only[lP,aa1];first|(simp_all;done)|(refine Iff.intro (fun h=>(by cases h)) (fun h=> ?_);exfalso;have e1:=congrArg List.length h.1;have e2:=congrArg List.length h.2.2.2;simp only[aaE]at e2;omega)))
 refine iI (fun hc8=> ?_) (fun hc8=> ?_)
 exact eH hK ⟨false=true⟩ (by dsimp only[dl]<;>(simp only[lP,aa1];first|(simp_all;done)|(refine Iff.intro (fun h=>(by cases h)) (fun h=> ?_);exfalso;have e1:=congrArg List.length h.1;have e2:=congrArg List.length h.2.2.2;simp only[aaE]at e2;omega)))
 refine iI (fun hc9=> ?_) (fun hc9=> ?_)
 exact eH hK ⟨false=true⟩ (by dsimp only[dl]<;>(simp only[lP,aa1];first|(simp_all;done)|(refine Iff.intro (fun h=>(by cases h)) (fun h=> ?_);exfalso;have e1:=congrArg List.length h.1;have e2:=congrArg List.length h.2.2.2;simp only[aaE]at e2;omega)))
 refine eX (⟨p.a,p.b,(0:Int)⟩:fS) rfl (by(try dsimp only[jE]);refine⟨by omega,by omega,by omega,by omega,rfl⟩) ?_
 refine aE ?_ ?_
 refine iI (p:=p.a.gs=p.b.gs) (fun hi10=> ?_) (fun _=>rfl)
 refine eX (⟨p.a,p.b,(0:Int)⟩:fR) rfl (by(try dsimp only[jD]);refine⟨by omega,by omega,by omega,u1,u2,rfl⟩) ?_
 refine aE ?_ ?_
 refine iI (p:=p.a.os.map cx=p.b.os.map cx) (fun hi11=> ?_) (fun _=>rfl)
 exact eH hK ⟨true=true⟩ (by dsimp only[dl]<;>(simp only[lP,aa1];first|(simp_all;done)|(refine Iff.intro (fun h=>(by cases h)) (fun h=> ?_);exfalso;have e1:=congrArg List.length h.1;have e2:=congrArg List.length h.2.2.2;simp only[aaE]at e2;omega)))
 refine iI (p:=¬p.a.os.map cx=p.b.os.map cx) (fun hi12=> ?_) (fun _=>rfl)
 exact eH hK ⟨false=true⟩ (by dsimp only[dl]<;>(simp only[lP,aa1];first|(simp_all;done)|(refine Iff.intro (fun h=>(by cases h)) (fun h=> ?_);exfalso;have e1:=congrArg List.length h.1;have e2:=congrArg List.length h.2.2.2;simp only[aaE]at e2;omega)))
 refine iI (p:=¬p.a.gs=p.b.gs) (fun hi13=> ?_) (fun _=>rfl)
 exact eH hK ⟨false=true⟩ (by dsimp only[dl]<;>(simp only[lP,aa1];first|(simp_all;done)|(refine Iff.intro (fun h=>(by cases h)) (fun h=> ?_);exfalso;have e1:=congrArg List.length h.1;have e2:=congrArg List.length h.2.2.2;simp only[aaE]at e2;omega)))
noncomputable def Eg:=bN kY 0 (ck pP (dP jz vX)) 8 [(0,15),(1,15)]
theorem GP:aZ Tryz.prog Eg:=aR (cM (f:=8) (k:=0) (lp:=nE) (lf:=600) bH (aQ kr) Ji (by rfl) (fun b j x h=>(cG Qp (fun h=>(cG Qo (fun h=>(by cases h)) h)) h)) fun p K h=>OU p K (aa h).1 (aa h).2) kr
end Go.Proofs.Tryz
namespace Go.Proofs.Tryz
open Go Go.RowKit Go.Sy Go.Txt
abbrev TX:=List (List UInt8)
theorem xX {α:Type} {l:List α} {x d:α} (h:l[0]?=some x):x=l.headD d:=by
 cases l with
 |nil=>simp at h
 |cons y r=>simpa using h.symm
theorem xA {α:Type} (l:List α):(l.drop 1).take (l.length - 1)=l.tail:=by
 cases l with
 |nil=>rfl
 |cons y r=>simp
theorem Cj {l l1:TX} {s:List UInt8} {o o1:Prop} (h:s=l.headD []∧l1=l.tail∧(o1↔o∨l=[])) (q2:∀x∈l,x.length≤100000):s.length≤1000000:=by
 rw[h.1]
 cases l with
 |nil=>simp
 |cons y r=>exact Nat.le_trans (q2 y List.mem_cons_self) (by decide)
theorem RI {l:TX} {m z:Int} (h:cb m (l.headD []) z):l≠[]:=fun q=>by
 rw[q]at h
 exact JP h
theorem Ck {l l1:TX} {s:List UInt8} {o o1:Prop} {u:Nat} {m:Int} (hm:m≤18446744073709551615) (h:s=l.headD []∧l1=l.tail∧(o1↔o∨l=[])) (hp:Lib.parseMag s= .ok u∧u≤18446744073709551615) (h1:¬m<(u:Int)) (h2:¬¬Lib.itoa (u:Int)=s):
  l1=l.tail∧(o1↔o∨¬cb m (l.headD []) (u:Int))∧((∃z,cb m (l.headD []) z)→cb m (l.headD []) (u:Int))∧0≤(u:Int)∧(u:Int)≤18446744073709551615:=by
 obtain⟨rfl,h4,h5⟩:=h
 obtain⟨e1,e2⟩:=NF hm hp.1
 have e3:=e1.2 ⟨by omega,Classical.not_not.1 h2⟩
 refine⟨h4,?_,e2,by omega,by omega⟩
 rw[h5]
 exact⟨fun q=>q.elim .inl (fun z=>absurd z (RI e3)),fun q=>q.elim .inl (fun z=>absurd e3 z)⟩
theorem zg {l l1:TX} {s:List UInt8} {o o1:Prop} {u:Nat} {m:Int} (hm:m≤18446744073709551615) (h:s=l.headD []∧l1=l.tail∧(o1↔o∨l=[])) (hp:Lib.parseMag s= .ok u∧u≤18446744073709551615) (h1:m<(u:Int)∨¬Lib.itoa (u:Int)=s):
  l1=l.tail∧(true=true↔o∨¬cb m (l.headD []) (u:Int))∧((∃z,cb m (l.headD []) z)→cb m (l.headD []) (u:Int))∧0≤(u:Int)∧(u:Int)≤18446744073709551615:=by
 obtain⟨rfl,h4,h5⟩:=h
 obtain⟨e1,e2⟩:=NF hm hp.1
 have e3:¬cb m (l.headD []) (u:Int):=fun q=>by
  have e4:=e1.1 q
  rcases h1 with h1|h1
  ·omega
  ·exact h1 e4.2
 exact⟨h4,⟨fun _=>.inr e3,fun _=>rfl⟩,e2,by omega,by omega⟩
theorem zf {l l1:TX} {s:List UInt8} {o o1:Prop} {z m:Int} (hm:m≤18446744073709551615) (h:s=l.headD []∧l1=l.tail∧(o1↔o∨l=[])) (hp:∀u,¬Lib.parseMag s= .ok u) (hz:0≤z∧z≤18446744073709551615):
  l1=l.tail∧(true=true↔o∨¬cb m (l.headD []) z)∧((∃z,cb m (l.headD []) z)→cb m (l.headD []) z)∧0≤z∧z≤18446744073709551615:=by
 obtain⟨rfl,h4,h5⟩:=h
 have e:=fun z=>PW (z:=z) hm hp
 exact⟨h4,⟨fun _=>.inr (e z),fun _=>rfl⟩,fun⟨z,q⟩=>absurd q (e z),hz⟩
theorem xy {z:Int} (h:z≤9223372036854775807) (h0: -9223372036854775808≤z):(aw 0).wrap z=z:=IntWalk.i64_in z ⟨h0,h⟩
theorem vB (z:Int): -9223372036854775808≤(aw 0).wrap z∧(aw 0).wrap z≤9223372036854775807:=by
 show -9223372036854775808≤IntKind.i64.wrap z∧IntKind.i64.wrap z≤_
 rw[IntKind.wrap_i64];omega
theorem Um {z:Int} (h:9223372036854775808≤z) (h1:z≤18446744073709551615):(aw 0).wrap z<0:=by
 show IntKind.i64.wrap z<0
 rw[IntKind.wrap_i64];omega
theorem PV {m z:Int} {s:List UInt8} (hm:m≤9223372036854775807) (h0:0≤z) (h1:z≤18446744073709551615):cb m s ((aw 0).wrap z)↔cb m s z:=by
 by_cases h:z≤9223372036854775807
 ·rw[xy h (by omega)]
 ·have e:=Um (z:=z) (by omega) h1
  exact⟨fun q=>absurd q.1 (by omega),fun q=>absurd q.2.1 (by omega)⟩
theorem Eb {l l1:TX} {o o1:Prop} {z:Int} (h:l1=l.tail∧(o1↔o∨¬cb 1099511627776 (l.headD []) z)∧((∃z,cb 1099511627776 (l.headD []) z)→cb 1099511627776 (l.headD []) z)∧0≤z∧z≤18446744073709551615):
  l1=l.tail∧(o1↔o∨¬cb 1099511627776 (l.headD []) ((aw 0).wrap z))∧((∃z,cb 1099511627776 (l.headD []) z)→cb 1099511627776 (l.headD []) ((aw 0).wrap z))∧ -9223372036854775808≤(aw 0).wrap z∧(aw 0).wrap z≤9223372036854775807:=by
 obtain⟨h1,h2,h3,h4,h5⟩:=h
 have e:=PV (m:=1099511627776) (s:=l.headD []) (by decide) h4 h5
 exact⟨h1,by rw[h2,e],fun q=>e.2 (h3 q),vB z⟩
theorem JY {l l1:TX} {s t:List UInt8} {o o1:Prop} (h:s=l.headD []∧l1=l.tail∧(o1↔o∨l=[])) (h2:¬s=t):l1=l.tail∧(true=true↔o∨l=[]∨¬l.headD []=t):=
 ⟨h.2.1,by rw[h.1]at h2;simp only[h2,not_false_eq_true,or_true]⟩
theorem GW {l l1:TX} {s t:List UInt8} {o o1:Prop} (h:s=l.headD []∧l1=l.tail∧(o1↔o∨l=[])) (h2:¬¬s=t):l1=l.tail∧(o1↔o∨l=[]∨¬l.headD []=t):=by
 obtain⟨rfl,h3,h4⟩:=h
 have e:=Classical.not_not.1 h2
 exact⟨h3,by rw[h4,e];simp⟩
def ep (k:Int):List UInt8:=if k=0 then [114,101,97,100] else if k=1 then [119,114,105,116,101] else if k=2 then [97,100,100] else if k=3 then [116,97,107,101] else [101,114,97,115,101]
def bV (p:aB):TX:=Lib.itoa p.g::ep p.k::p.key::(if p.k=1 then [p.val] else if p.k=2∨p.k=3 then [Lib.itoa p.n] else [])
def aX (p:aB):List UInt8:=Lib.join (bV p) [58]
def dm (p:aB):Prop:=bA p∧sR p
theorem pU {a b:Int} (ha:0≤a∧a≤4) (hb:0≤b∧b≤4) (h:ep a=ep b):a=b:=by
 obtain e|e|e|e|e:a=0∨a=1∨a=2∨a=3∨a=4:=by omega
 all_goals
  obtain f|f|f|f|f:b=0∨b=1∨b=2∨b=3∨b=4:=by omega
  all_goals(subst e;subst f;first|rfl|(exact absurd h (by decide)))
theorem kq {p:aB} (h:bq p):0≤p.k∧p.k≤4:=by
 obtain⟨_,_,_,h⟩:=h
 omega
theorem Bc {t:List UInt8} (h:mM t) {b:UInt8} (hb:b=32∨b=58∨b=10):b∉t:=fun q=>by
 have e:=(CK _).1 (h.2 b q)
 unfold wk at e
 rcases hb with rfl|rfl|rfl
 ·exact absurd e (by decide)
 ·exact absurd e (by decide)
 ·exact absurd e (by decide)
theorem MU (k:Int) {b:UInt8} (hb:b=32∨b=58∨b=10):b∉ep k:=by
 unfold ep
 rcases hb with rfl|rfl|rfl<;>(repeat' split)<;>decide
theorem IU {p:aB} (h:dm p) {b:UInt8} (hb:b=32∨b=58∨b=10):∀x∈bV p,b∉x:=by
 obtain⟨⟨h1,h2,h3⟩,h4⟩:=h
 have hn:p.k=2∨p.k=3→0≤p.n:=fun q=>by
  obtain⟨_,_,_,h⟩:=h1
  rcases h with h|h|h
  ·omega
  ·exact h.2.2
  ·omega
 intro x hx
 unfold bV at hx
 rcases List.mem_cons.1 hx with rfl|hx
 ·exact Ej h4.1.1 hb
 rcases List.mem_cons.1 hx with rfl|hx
 ·exact MU _ hb
 rcases List.mem_cons.1 hx with rfl|hx
 ·exact Bc h2 hb
 split at hx
 ·rename_i e
  rw[List.mem_singleton]at hx
  rw[hx];exact Bc (h3 e) hb
 ·split at hx
  ·rename_i e
   rw[List.mem_singleton]at hx
   rw[hx];exact Ej (hn e) hb
  ·cases hx
theorem uc {p:aB} (h:dm p):wds 58 (aX p)=bV p:=OI (by unfold bV;simp) (IU h (.inr (.inl rfl)))
theorem gD {p:aB} {s:List UInt8} (h:dm p):s=aX p↔wds 58 s=bV p:=
 ⟨fun e=>by rw[e];exact uc h,fun e=>by rw[aX,←e,Hi]⟩
theorem AL {z:Int} (h:z≤255) (h0:0≤z):(aw 1).wrap z=z:=IntWalk.u8_in z ⟨h0,h⟩
theorem kS (z:Int):0≤(aw 1).wrap z∧(aw 1).wrap z≤255:=by
 show 0≤IntKind.u8.wrap z∧IntKind.u8.wrap z≤_
 rw[IntKind.wrap_u8];omega
def ig (s:List UInt8) (q:Prop) (p:aB):Prop:=(q→dm p∧s=aX p)∧(¬q→∀p',dm p'→¬s=aX p')
theorem dI {m z:Int} (h0:0≤z) (h:z≤m):cb m (Lib.itoa z) z:=⟨h0,h,rfl⟩
theorem LK {s:List UInt8} {z:Int} (h:cb 3 s z):s=Lib.itoa ((aw 1).wrap z)∧0≤z∧z≤3:=by
 rw[AL (by have:=h.2.1;omega) h.1]
 exact⟨h.2.2,h.1,h.2.1⟩
abbrev numH (l l1:TX) (o o1:Prop) (m z:Int):Prop:=l1=l.tail∧(o1↔o∨¬cb m (l.headD []) z)∧((∃z,cb m (l.headD []) z)→cb m (l.headD []) z)∧0≤z∧z≤18446744073709551615
abbrev db (l l1:TX) (o o1:Prop) (s:List UInt8):Prop:=s=l.headD []∧l1=l.tail∧(o1↔o∨l=[])
theorem Nt {s v key:List UInt8} {l1 l2 l3:TX} {o0 o1 o2 o3 q:Prop} {z k:Int} (h1:numH (wds 58 s) l1 o0 o1 3 z) (h2:db l1 l2 o1 o2 v) (h3:db l2 l3 o2 o3 key) (hk:ep k=v) (k0:k=0∨k=4) (ho:¬o0)
  (hq:q↔¬o3∧l3=[]∧bA ⟨(aw 1).wrap z,k,key,[],0⟩):ig s q ⟨(aw 1).wrap z,k,key,[],0⟩:=by
 obtain⟨rfl,a1,a2,_⟩:=h1
 obtain⟨rfl,rfl,b1⟩:=h2
 obtain⟨rfl,rfl,c1⟩:=h3
 constructor
 ·intro hq'
  obtain⟨e1,e2,e3⟩:=hq.1 hq'
  have e4:dm ⟨(aw 1).wrap z,k,_,[],0⟩:=⟨e3,kS z,by simp only;omega,by simp only;omega,by simp only;omega⟩
  refine⟨e4,(gD e4).2 ?_⟩
  generalize wds 58 s=W at*
  rw[c1,not_or,b1,not_or,a1,not_or]at e1
  obtain⟨⟨⟨_,e5⟩,e6⟩,e7⟩:=e1
  rcases W with _|⟨w1,_|⟨w2,_|⟨w3,r⟩⟩⟩
  ·simp at e6
  ·simp at e6
  ·simp at e7
  ·have e8:=(LK (Classical.not_not.1 e5)).1
   simp only[List.headD_cons,List.tail_cons]at e2 e8 hk ⊢
   rw[bV,hk,e2,e8,if_neg (by simp only;omega),if_neg (by simp only;omega)]
 ·intro hn p' hp hs
  refine hn (hq.2 ?_)
  have hW:=(gD hp).1 hs
  have hg:=hp.2.1.1
  have hg2:=hp.1.1.1
  have hkk:=kq hp.1.1
  have hv:p'.k=k:=by
   rw[hW]at hk
   exact(pU (by omega) hkk (by simpa[bV] using hk)).symm
  have hw:bV p'=[Lib.itoa p'.g,ep p'.k,p'.key]:=by rw[bV,if_neg (by omega),if_neg (by omega)]
  rw[hW,hw]at a1 a2 b1 c1 ⊢
  simp only[List.headD_cons,List.tail_cons,reduceCtorEq,or_false,List.cons_ne_nil]at a1 a2 b1 c1 ⊢
  have e1:=a2 ⟨_,dI (by omega) (show p'.g≤3 by omega)⟩
  have e2:=pF (by decide) (by decide) e1 (dI (by omega) (show p'.g≤3 by omega))
  refine⟨by rw[c1,b1,a1];simp[ho,e1],trivial,?_⟩
  rw[e2,AL (by omega) (by omega),←hv]
  have hval:p'.val=[]∧p'.n=0:=by
   obtain⟨_,_,_,h⟩:=hp.1.1
   rcases h with h|h|h
   ·omega
   ·omega
   ·exact h.2
  rw[←hval.1,←hval.2]
  exact hp.1
theorem Ns {s v key val:List UInt8} {l1 l2 l3 l4:TX} {o0 o1 o2 o3 o4 q:Prop} {z:Int} (h1:numH (wds 58 s) l1 o0 o1 3 z) (h2:db l1 l2 o1 o2 v) (h3:db l2 l3 o2 o3 key) (h4:db l3 l4 o3 o4 val) (hk:ep 1=v) (ho:¬o0)
  (hq:q↔¬o4∧l4=[]∧bA ⟨(aw 1).wrap z,1,key,val,0⟩):ig s q ⟨(aw 1).wrap z,1,key,val,0⟩:=by
 obtain⟨rfl,a1,a2,_⟩:=h1
 obtain⟨rfl,rfl,b1⟩:=h2
 obtain⟨rfl,rfl,c1⟩:=h3
 obtain⟨rfl,rfl,d1⟩:=h4
 constructor
 ·intro hq'
  obtain⟨e1,e2,e3⟩:=hq.1 hq'
  have e4:dm ⟨(aw 1).wrap z,1,_,_,0⟩:=⟨e3,kS z,by simp only;omega,by simp only;omega,by simp only;omega⟩
  refine⟨e4,(gD e4).2 ?_⟩
  generalize wds 58 s=W at*
  rw[d1,not_or,c1,not_or,b1,not_or,a1,not_or]at e1
  obtain⟨⟨⟨⟨_,e5⟩,e6⟩,e7⟩,e9⟩:=e1
  rcases W with _|⟨w1,_|⟨w2,_|⟨w3,_|⟨w4,r⟩⟩⟩⟩
  ·simp at e6
  ·simp at e6
  ·simp at e7
  ·simp at e9
  ·have e8:=(LK (Classical.not_not.1 e5)).1
   simp only[List.headD_cons,List.tail_cons]at e2 e8 hk ⊢
   rw[bV,hk,e2,e8,if_pos rfl]
 ·intro hn p' hp hs
  refine hn (hq.2 ?_)
  have hW:=(gD hp).1 hs
  have hg:=hp.2.1.1
  have hg2:=hp.1.1.1
  have hkk:=kq hp.1.1
  have hv:p'.k=1:=by
   rw[hW]at hk
   exact(pU (by omega) hkk (by simpa[bV] using hk)).symm
  have hw:bV p'=[Lib.itoa p'.g,ep p'.k,p'.key,p'.val]:=by rw[bV,if_pos hv]
  rw[hW,hw]at a1 a2 b1 c1 d1 ⊢
  simp only[List.headD_cons,List.tail_cons,reduceCtorEq,or_false,List.cons_ne_nil]at a1 a2 b1 c1 d1 ⊢
  have e1:=a2 ⟨_,dI (by omega) (show p'.g≤3 by omega)⟩
  have e2:=pF (by decide) (by decide) e1 (dI (by omega) (show p'.g≤3 by omega))
  refine⟨by rw[d1,c1,b1,a1];simp[ho,e1],trivial,?_⟩
  rw[e2,AL (by omega) (by omega),←hv]
  have hval:p'.n=0:=by
   obtain⟨_,_,_,h⟩:=hp.1.1
   omega
  rw[←hval]
  exact hp.1
theorem Nr {s v key:List UInt8} {l1 l2 l3 l4:TX} {o0 o1 o2 o3 o4 q:Prop} {z k y:Int} (h1:numH (wds 58 s) l1 o0 o1 3 z) (h2:db l1 l2 o1 o2 v) (h3:db l2 l3 o2 o3 key) (h4:numH l3 l4 o3 o4 9223372036854775807 y) (hk:ep k=v) (k0:k=2∨k=3) (ho:¬o0)
  (hq:q↔¬o4∧l4=[]∧bA ⟨(aw 1).wrap z,k,key,[],(aw 0).wrap y⟩):ig s q ⟨(aw 1).wrap z,k,key,[],(aw 0).wrap y⟩:=by
 obtain⟨rfl,a1,a2,_⟩:=h1
 obtain⟨rfl,rfl,b1⟩:=h2
 obtain⟨rfl,rfl,c1⟩:=h3
 obtain⟨rfl,d1,d2,d3,d4⟩:=h4
 constructor
 ·intro hq'
  obtain⟨e1,e2,e3⟩:=hq.1 hq'
  have e4:dm ⟨(aw 1).wrap z,k,_,[],(aw 0).wrap y⟩:=⟨e3,kS z,by simp only;omega,(vB y).1,(vB y).2⟩
  refine⟨e4,(gD e4).2 ?_⟩
  generalize wds 58 s=W at*
  rw[d1,not_or,c1,not_or,b1,not_or,a1,not_or]at e1
  obtain⟨⟨⟨⟨_,e5⟩,e6⟩,e7⟩,e9⟩:=e1
  have e9:=Classical.not_not.1 e9
  rcases W with _|⟨w1,_|⟨w2,_|⟨w3,_|⟨w4,r⟩⟩⟩⟩
  ·simp at e6
  ·simp at e6
  ·simp at e7
  ·exact absurd e9 JP
  ·have e8:=(LK (Classical.not_not.1 e5)).1
   have e10:w4=Lib.itoa ((aw 0).wrap y):=by rw[xy e9.2.1 (by omega)];exact e9.2.2
   simp only[List.headD_cons,List.tail_cons]at e2 e8 hk ⊢
   rw[bV,hk,e2,e8,if_neg (by simp only;omega),if_pos (by simp only;omega),e10]
 ·intro hn p' hp hs
  refine hn (hq.2 ?_)
  have hW:=(gD hp).1 hs
  have hg:=hp.2.1.1
  have hg2:=hp.1.1.1
  have hkk:=kq hp.1.1
  have hv:p'.k=k:=by
   rw[hW]at hk
   exact(pU (by omega) hkk (by simpa[bV] using hk)).symm
  have hw:bV p'=[Lib.itoa p'.g,ep p'.k,p'.key,Lib.itoa p'.n]:=by rw[bV,if_neg (by omega),if_pos (by omega)]
  have hval:p'.val=[]∧0≤p'.n:=by
   obtain⟨_,_,_,h⟩:=hp.1.1
   rcases h with h|h|h
   ·omega
   ·exact h.2
   ·omega
  rw[hW,hw]at a1 a2 b1 c1 d1 d2 ⊢
  simp only[List.headD_cons,List.tail_cons,reduceCtorEq,or_false,List.cons_ne_nil]at a1 a2 b1 c1 d1 d2 ⊢
  have e1:=a2 ⟨_,dI (by omega) (show p'.g≤3 by omega)⟩
  have e2:=pF (by decide) (by decide) e1 (dI (by omega) (show p'.g≤3 by omega))
  have f0:=dI hval.2 (show p'.n≤9223372036854775807 from hp.2.2.2.2)
  have f1:=d2 ⟨_,f0⟩
  have f2:=pF (by decide) (by decide) f1 f0
  refine⟨by rw[d1,c1,b1,a1];simp[ho,e1,f1],trivial,?_⟩
  rw[e2,f2,AL (by omega) (by omega),xy hp.2.2.2.2 (by omega),←hv,←hval.1]
  exact hp.1
theorem Nq {s v:List UInt8} {l1 l2:TX} {o0 o1 o2:Prop} {z:Int} {p:aB} (h1:numH (wds 58 s) l1 o0 o1 3 z) (h2:db l1 l2 o1 o2 v) (h:∀k,0≤k→k≤4→¬ep k=v):ig s (false=true) p:=by
 unfold ig
 refine⟨fun q=>(by cases q),fun _ p' hp hs=> ?_⟩
 have hW:=(gD hp).1 hs
 have hkk:=kq hp.1.1
 refine h p'.k hkk.1 hkk.2 ?_
 rw[h2.1,h1.1,hW]
 rfl
theorem FK {v:List UInt8} (h:([114,101,97,100]:List Nat).map aaY=v):ep 0=v:=h▸by decide
theorem FJ {v:List UInt8} (h:([119,114,105,116,101]:List Nat).map aaY=v):ep 1=v:=h▸by decide
theorem FI {v:List UInt8} (h:([97,100,100]:List Nat).map aaY=v):ep 2=v:=h▸by decide
theorem FH {v:List UInt8} (h:([116,97,107,101]:List Nat).map aaY=v):ep 3=v:=h▸by decide
theorem FG {v:List UInt8} (h:([101,114,97,115,101]:List Nat).map aaY=v):ep 4=v:=h▸by decide
theorem MX {v:List UInt8} (h0:¬([114,101,97,100]:List Nat).map aaY=v) (h1:¬([119,114,105,116,101]:List Nat).map aaY=v) (h2:¬([97,100,100]:List Nat).map aaY=v) (h3:¬([116,97,107,101]:List Nat).map aaY=v) (h4:¬([101,114,97,115,101]:List Nat).map aaY=v):∀k,0≤k→k≤4→¬ep k=v:=fun k a b e=>by
 obtain q|q|q|q|q:k=0∨k=1∨k=2∨k=3∨k=4:=by omega
 all_goals subst q
 ·exact h0 (e▸by decide)
 ·exact h1 (e▸by decide)
 ·exact h2 (e▸by decide)
 ·exact h3 (e▸by decide)
 ·exact h4 (e▸by decide)
theorem jh {b:UInt8}:∀(s:List UInt8),∀x∈wds b s,x.length≤s.length
 |[],x,h=>by simp[wds]at h;simp[h]
 |c::r,x,h=>by
  unfold wds at h
  split at h
  ·rcases List.mem_cons.1 h with rfl|h
   ·simp
   ·have:=jh r x h
    simp only[aaD];omega
  ·split at h
   ·rename_i u us e
    rcases List.mem_cons.1 h with rfl|h
    ·have:=jh r u (by rw[e];exact List.mem_cons_self)
     simp only[aaD];omega
    ·have:=jh r x (by rw[e];exact List.mem_cons_of_mem _ h)
     simp only[aaD];omega
   ·rename_i e
    exact absurd e (wds_ne b r)
theorem tE {b:UInt8}:∀(s:List UInt8),(wds b s).length≤s.length+1
 |[]=>by simp[wds]
 |c::r=>by
  have ih:=tE (b:=b) r
  unfold wds
  split
  ·simp only[aaD];omega
  ·split
   ·rename_i u us e
    rw[e]at ih
    simp only[aaD]at ih ⊢;omega
   ·simp
theorem MI {b:UInt8} {s:List UInt8} (h:s.length≤100000):(wds b s).length≤1000000∧∀x∈wds b s,x.length≤100000:=
 ⟨by have:=tE (b:=b) s;omega,fun x hx=>by have:=jh s x hx;omega⟩
structure CfR where
 clients:Int
 window:Int
 deadline:Int
 pace:Int
 again:Int
 bag:Int
 first:Int
abbrev ZU:=(Int×Int×Int×Int×Int×Int)×Int×Int×List aB
structure St where
 gs:List aM
 cf:CfR
 os:List ZU
 set:Int
def fo (c:CfR) (i z:Int):CfR:=if i=0 then {c with clients:=z} else if i=1 then {c with window:=z} else if i=2 then {c with deadline:=z} else if i=3 then {c with pace:=z} else if i=4 then {c with again:=z} else if i=5 then {c with bag:=z} else {c with first:=z}
def xU (i:Int):List UInt8:=if i=0 then [99,108,105,101,110,116,115] else if i=1 then [119,105,110,100,111,119] else if i=2 then [100,101,97,100,108,105,110,101] else if i=3 then [112,97,99,101] else if i=4 then [97,103,97,105,110] else if i=5 then [98,97,103] else [102,105,114,115,116]
def rz (i:Int):Int:=if i=6 then 18446744073709551615 else 1099511627776
def qE:List UInt8:=[103,114,111,117,112]
def Bd:List UInt8:=[112,108,97,105,110]
def mU:List UInt8:=[99,104,101,99,107]
noncomputable def uP (c:Prop):List UInt8:= @ite _ c (Classical.propDecidable _) mU Bd
noncomputable def eV (g:aM):TX:=[qE,Lib.itoa g.f,Lib.itoa g.s,uP g.c]
def ll (k:Int):List UInt8:=if k=0 then [105,110,118,111,107,101] else if k=1 then [115,108,97,121] else if k=2 then [100,101,108,105,118,101,114] else if k=3 then [100,114,111,112] else if k=4 then [116,119,105,99,101] else if k=5 then [115,112,111,105,108] else if k=6 then [116,105,99,107] else if k=7 then [115,117,115,112,101,99,116] else if k=8 then [99,114,97,115,104] else if k=9 then [114,101,115,116,97,114,116] else if k=10 then [106,111,105,110] else [108,101,97,118,101]
def de (o:aI):TX:=if o.kind=0 then [Lib.itoa o.x,Lib.itoa o.mode] else if o.kind=1∨o.kind=7 then [Lib.itoa o.x,Lib.itoa o.y] else if o.kind=2∨o.kind=3∨o.kind=4 then [Lib.itoa o.i] else if o.kind=5 then [Lib.itoa o.i,Lib.itoa o.at_,Lib.itoa o.mask] else [Lib.itoa o.x]
def ga (o:aI):TX:=ll o.kind::(de o++o.ps.map aX)
def cA (o:aI):Prop:=cS o∧Wz o
def Hs (a:St) (ws:TX) (b:St):Prop:=a.gs.length<4∧∃g,yS g∧ws=eV g∧b={a with gs:=a.gs++[g]}
def pY (a:St) (ws:TX) (b:St):Prop:=a.gs≠[]∧∃z,(0≤z∧z≤rz a.set)∧ws=[xU a.set,Lib.itoa z]∧b={a with cf:=fo a.cf a.set z,set:=a.set+1}
def fJ (a:St) (ws:TX) (b:St):Prop:=∃o,cA o∧ws=ga o∧b={a with os:=a.os++[cx o]}
def step (a:St) (w:List UInt8) (b:St):Prop:=(a.set=0∧Hs a (wds 32 w) b)∨((0≤a.set∧a.set≤6)∧pY a (wds 32 w) b)∨(a.set=7∧fJ a (wds 32 w) b)
abbrev zc:=List aM×CfR×List ZU
def ZP:CfR:=⟨0,0,0,0,0,0,0⟩
def gn:zc:=([],ZP,[])
def rh:St:=⟨[],ZP,[],0⟩
inductive eI:St→Int→List UInt8→zc→Int→Prop
 |whole (a:St) (k:Int):a.set=7→eI a k [] (a.gs,a.cf,a.os) 0
 |short (a:St) (k:Int):¬a.set=7→eI a k [] gn k
 |open_ (a:St) (k:Int) (t:List UInt8):t≠[]→(10:UInt8)∉t→eI a k t gn k
 |bad (a:St) (k:Int) (w r:List UInt8):(10:UInt8)∉w→(∀b,¬step a w b)→eI a k (w++10::r) gn k
 |good (a b:St) (k:Int) (w r:List UInt8) (o:zc) (n:Int):(10:UInt8)∉w→step a w b→eI b (k+1) r o n→eI a k (w++10::r) o n
theorem yf {b:UInt8}:∀{u v r s:List UInt8},b∉u→b∉v→u++b::r=v++b::s→u=v∧r=s
 |[],[],r,s,_,_,h=>⟨rfl,by simpa using h⟩
 |[],y::v,r,s,_,hv,h=>by
  simp only[aaK,aaJ,List.cons.injEq]at h
  exact absurd (by rw[h.1];exact List.mem_cons_self) hv
 |x::u,[],r,s,hu,_,h=>by
  simp only[aaK,aaJ,List.cons.injEq]at h
  exact absurd (by rw[←h.1];exact List.mem_cons_self) hu
 |x::u,y::v,r,s,hu,hv,h=>by
  simp only[aaJ,List.cons.injEq]at h
  obtain⟨e1,e2⟩:=yf (fun q=>hu (List.mem_cons_of_mem _ q)) (fun q=>hv (List.mem_cons_of_mem _ q)) h.2
  exact⟨by rw[h.1,e1],e2⟩
theorem kw {a b m m':Int} (ha:0≤a∧a≤m) (hb:0≤b∧b≤m') (hm:m≤18446744073709551615) (hm':m'≤18446744073709551615) (h:Lib.itoa a=Lib.itoa b):a=b:=zQ ha.1 hb.1 (by omega) (by omega) h
theorem TL {g h:aM} (hg:yS g) (hh:yS h) (e:eV g=eV h):g=h:=by
 obtain⟨f,s,c⟩:=g
 obtain⟨f',s',c'⟩:=h
 unfold eV at e
 simp only[List.cons.injEq,true_and,and_true]at e
 obtain⟨e1,e2,e3⟩:=e
 have e4:f=f':=kw hg.1 hh.1 (by decide) (by decide) e1
 have e5:s=s':=kw hg.2 hh.2 (by decide) (by decide) e2
 have e6:c=c':=by
  unfold uP at e3
  apply propext
  by_cases p:c
  ·rw[if_pos p]at e3
   by_cases q:c'
   ·exact⟨fun _=>q,fun _=>p⟩
   ·rw[if_neg q]at e3;exact absurd e3 (by decide)
  ·rw[if_neg p]at e3
   by_cases q:c'
   ·rw[if_pos q]at e3;exact absurd e3 (by decide)
   ·exact⟨fun r=>absurd r p,fun r=>absurd r q⟩
 rw[e4,e5,e6]
theorem PM {p q:aB} (hp:dm p) (hq:dm q) (e:aX p=aX q):p=q:=by
 have e1:bV p=bV q:=by rw[←uc hp,e,uc hq]
 obtain⟨g,k,key,val,n⟩:=p
 obtain⟨g',k',key',val',n'⟩:=q
 have hk:=pU (kq hp.1.1) (kq hq.1.1) (by simp only[bV,List.cons.injEq]at e1;exact e1.2.1)
 simp only at hk
 subst hk
 have hR:=hp.1.1.2.2.2
 have hS:=hq.1.1.2.2.2
 have hg:=hp.2.1
 have hg':=hq.2.1
 have hn:=hp.2.2.2
 have hn':=hq.2.2.2
 simp only at hR hS hg hg' hn hn'
 simp only[bV,List.cons.injEq,true_and]at e1
 obtain⟨e2,e3,e4⟩:=e1
 have e5:g=g':=kw hg hg' (by decide) (by decide) e2
 subst e5;subst e3
 by_cases h1:k=1
 ·rw[if_pos h1,if_pos h1]at e4
  obtain⟨rfl,rfl⟩:n=0∧n'=0:=by omega
  simp only[List.cons.injEq,and_true]at e4
  rw[e4]
 ·rw[if_neg h1,if_neg h1]at e4
  by_cases h2:k=2∨k=3
  ·rw[if_pos h2,if_pos h2]at e4
   simp only[List.cons.injEq,and_true]at e4
   have a1:val=[]∧0≤n:=by
    rcases hR with h|h|h
    ·omega
    ·exact h.2
    ·omega
   have a2:val'=[]∧0≤n':=by
    rcases hS with h|h|h
    ·omega
    ·exact h.2
    ·omega
   have e6:n=n':=kw (m:=9223372036854775807) (m':=9223372036854775807) (by omega) (by omega) (by decide) (by decide) e4
   rw[a1.1,a2.1,e6]
  ·have a1:val=[]∧n=0:=by
    rcases hR with h|h|h
    ·omega
    ·omega
    ·exact h.2
   have a2:val'=[]∧n'=0:=by
    rcases hS with h|h|h
    ·omega
    ·omega
    ·exact h.2
   rw[a1.1,a1.2,a2.1,a2.2]
theorem rj:∀{l m:List aB},(∀x∈l,dm x)→(∀x∈m,dm x)→l.map aX=m.map aX→l=m
 |[],[],_,_,_=>rfl
 |[],y::m,_,_,h=>by simp at h
 |x::l,[],_,_,h=>by simp at h
 |x::l,y::m,h1,h2,h=>by
  simp only[List.map_cons,List.cons.injEq]at h
  rw[PM (h1 x List.mem_cons_self) (h2 y List.mem_cons_self) h.1,rj (fun z hz=>h1 z (List.mem_cons_of_mem _ hz)) (fun z hz=>h2 z (List.mem_cons_of_mem _ hz)) h.2]
theorem ze {a b:Int} (ha:0≤a∧a≤11) (hb:0≤b∧b≤11) (h:ll a=ll b):a=b:=by
 obtain e|e|e|e|e|e|e|e|e|e|e|e:a=0∨a=1∨a=2∨a=3∨a=4∨a=5∨a=6∨a=7∨a=8∨a=9∨a=10∨a=11:=by omega
 all_goals
  obtain f|f|f|f|f|f|f|f|f|f|f|f:b=0∨b=1∨b=2∨b=3∨b=4∨b=5∨b=6∨b=7∨b=8∨b=9∨b=10∨b=11:=by omega
  all_goals(subst e;subst f;first|rfl|(exact absurd h (by decide)))
theorem nB {o:aI} (h:cS o):0≤o.kind∧o.kind≤11:=Classical.not_not.1 fun q=>Gk q h
theorem nA {o:aI} (h:cA o):∀x∈o.ps,dm x:=by
 obtain⟨h,h2⟩:=h
 intro x hx
 refine⟨?_,h2.2.2.2 x hx⟩
 unfold cS at h
 rcases h with h|h|h|h|h|h|h|h|h|h|h|h
 ·exact h.2.2.2.2.2.2.2.2.2 x hx
 all_goals
  have e:o.ps=[]:=by simp only[h]
  rw[e]at hx;cases hx
theorem WN {o q:aI} (ho:cA o) (hq:cA q) (e:ga o=ga q):cx o=cx q:=by
 have hk:=ze (nB ho.1) (nB hq.1) (by simp only[ga,List.cons.injEq]at e;exact e.1)
 have hp:=nA ho
 have hp2:=nA hq
 obtain⟨h,⟨_,_,_,_,_,_⟩,hm,_,_⟩:=ho
 obtain⟨h',⟨_,_,_,_,_,_⟩,hm',_,_⟩:=hq
 obtain⟨kind,x,y,i,a,mode,mask,grp,hs,ps⟩:=o
 obtain⟨kind',x',y',i',a',mode',mask',grp',hs',ps'⟩:=q
 simp only at hk hp hp2 hm hm'
 subst hk
 simp only[ga,List.cons.injEq,true_and]at e
 unfold cS at h h'
 simp only at h h'
 rcases h with h|h|h|h|h|h|h|h|h|h|h|h
 all_goals
  obtain⟨rfl,h⟩:=h
  simp only[de,reduceIte,Int.reduceEq,or_true,or_false,true_or,aaJ,aaK,List.cons.injEq]at e
  simp at h'
 ·obtain⟨e1,e2,e3⟩:=e
  obtain⟨p1,hp3,hp4⟩:=h.2.2.2.2.2.2.2.1
  obtain⟨p2,hp5,hp6⟩:=h'.2.2.2.2.2.2.2.1
  have e4:=rj hp hp2 e3
  subst e4
  rw[hp3]at hp5;cases hp5
  have e5:x=x':=kw h.2.2.2.2.1 h'.2.2.2.2.1 (by decide) (by decide) e1
  have e6:mode=mode':=kw h.2.2.2.2.2.1 h'.2.2.2.2.2.1 (by decide) (by decide) e2
  simp only[cx]
  rw[e5,e6,←hp4,←hp6,h.1,h.2.1,h.2.2.1,h.2.2.2.1,h'.1,h'.2.1,h'.2.2.1,h'.2.2.2.1]
 all_goals
  have key:∀u v:Int,Lib.itoa u=Lib.itoa v→(0≤u∧u≤18446744073709551615)→(0≤v∧v≤18446744073709551615)→u=v:=fun u v h a b=>zQ a.1 b.1 a.2 b.2 h
  have p1:ps=[]:=by simp only[h]
  have p2:ps'=[]:=by simp only[h']
  simp only[p1,p2,List.map_nil,and_true]at e
  simp only[cx,aa1,true_and]
  refine⟨⟨?_,?_,?_,?_,?_⟩,?_,?_,p1.trans p2.symm⟩
  all_goals first
   |omega
   |exact key _ _ e (by omega) (by omega)
   |exact key _ _ e.1 (by omega) (by omega)
   |exact key _ _ e.2 (by omega) (by omega)
   |exact key _ _ e.2.1 (by omega) (by omega)
   |exact key _ _ e.2.2 (by omega) (by omega)
theorem Pi {a b c:St} {w:List UInt8} (h:step a w b) (k:step a w c):b=c:=by
 rcases h with⟨s1,_,g,h1,h2,rfl⟩|⟨s1,_,z,h1,h2,rfl⟩|⟨s1,o,h1,h2,rfl⟩
 ·rcases k with⟨s2,_,g',k1,k2,rfl⟩|⟨s2,_,z',k1,k2,rfl⟩|⟨s2,o',k1,k2,rfl⟩
  ·rw[TL h1 k1 (h2.symm.trans k2)]
  ·rw[h2]at k2
   have:=congrArg List.length k2
   simp[eV]at this
  ·omega
 ·rcases k with⟨s2,_,g',k1,k2,rfl⟩|⟨s2,_,z',k1,k2,rfl⟩|⟨s2,o',k1,k2,rfl⟩
  ·rw[h2]at k2
   have:=congrArg List.length k2
   simp[eV]at this
  ·rw[h2]at k2
   simp only[List.cons.injEq,true_and,and_true]at k2
   have hm:rz a.set≤18446744073709551615:=by unfold rz;split<;>decide
   rw[kw h1 k1 hm hm k2]
  ·omega
 ·rcases k with⟨s2,_,g',k1,k2,rfl⟩|⟨s2,_,z',k1,k2,rfl⟩|⟨s2,o',k1,k2,rfl⟩
  ·omega
  ·omega
  ·rw[WN h1 k1 (h2.symm.trans k2)]
theorem JE {a:St} {k:Int} {t:List UInt8} {o:zc} {n:Int} (h:eI a k t o n):∀{o':zc} {n':Int},eI a k t o' n'→o=o'∧n=n':=by
 have hnil:∀{w r:List UInt8},w++(10:UInt8)::r≠[]:=by intro w r;simp
 have hin:∀{w r:List UInt8},(10:UInt8)∈w++(10:UInt8)::r:=by intro w r;simp
 induction h with
 |whole a k h=>intro o' n' h';generalize ht:([]:List UInt8)=t at h';cases h' with
  |whole _ _ _=>exact⟨rfl,rfl⟩
  |short _ _ q=>exact absurd h q
  |open_ _ _ _ q _=>exact absurd ht.symm q
  |bad _ _ w r _ _=>exact absurd ht.symm hnil
  |good _ b _ w r _ _ _ _ _=>exact absurd ht.symm hnil
 |short a k h=>intro o' n' h';generalize ht:([]:List UInt8)=t at h';cases h' with
  |whole _ _ q=>exact absurd q h
  |short _ _ q=>exact⟨rfl,rfl⟩
  |open_ _ _ _ q _=>exact absurd ht.symm q
  |bad _ _ w r _ _=>exact absurd ht.symm hnil
  |good _ b _ w r _ _ _ _ _=>exact absurd ht.symm hnil
 |open_ a k t h1 h2=>intro o' n' h';cases h' with
  |whole _ _ q=>exact absurd rfl h1
  |short _ _ q=>exact absurd rfl h1
  |open_ _ _ _ q _=>exact⟨rfl,rfl⟩
  |bad _ _ w r _ _=>exact absurd hin h2
  |good _ b _ w r _ _ _ _ _=>exact absurd hin h2
 |bad a k w r h1 h2=>intro o' n' h';generalize ht:w++(10:UInt8)::r=t at h';cases h' with
  |whole _ _ q=>exact absurd ht hnil
  |short _ _ q=>exact absurd ht hnil
  |open_ _ _ _ q q2=>exact absurd (ht▸hin) q2
  |bad _ _ w' r' _ _=>exact⟨rfl,rfl⟩
  |good _ b _ w' r' _ _ q1 q2 _=>
   obtain⟨rfl,rfl⟩:=yf h1 q1 ht
   exact absurd q2 (h2 b)
 |good a b k w r o n h1 h2 h3 ih=>intro o' n' h';generalize ht:w++(10:UInt8)::r=t at h';cases h' with
  |whole _ _ q=>exact absurd ht hnil
  |short _ _ q=>exact absurd ht hnil
  |open_ _ _ _ q q2=>exact absurd (ht▸hin) q2
  |bad _ _ w' r' q1 q2=>
   obtain⟨rfl,rfl⟩:=yf h1 q1 ht
   exact absurd h2 (q2 b)
  |good _ b' _ w' r' _ _ q1 q2 q3=>
   obtain⟨rfl,rfl⟩:=yf h1 q1 ht
   obtain rfl:=Pi h2 q2
   exact ih q3
end Go.Proofs.Tryz
namespace Go.Proofs.Tryz
open Go Go.RowKit Go.Sy Go.Txt
set_option linter.unusedVariables false
abbrev Bt (l l1:TX) (o o1:Prop) (t:List UInt8):Prop:=l1=l.tail∧(o1↔o∨l=[]∨¬l.headD []=t)
abbrev zM (m:Int) (l l1:TX) (o o1:Prop) (z:Int):Prop:=l1=l.tail∧(o1↔o∨¬cb m (l.headD []) z)∧((∃z,cb m (l.headD []) z)→cb m (l.headD []) z)
abbrev numN (l l1:TX) (o o1:Prop) (z:Int):Prop:=l1=l.tail∧(o1↔o∨¬cb 1099511627776 (l.headD []) z)∧((∃z,cb 1099511627776 (l.headD []) z)→cb 1099511627776 (l.headD []) z)∧ -9223372036854775808≤z∧z≤9223372036854775807
theorem numN.X {l l1:TX} {o o1:Prop} {z:Int} (h:numN l l1 o o1 z):zM 1099511627776 l l1 o o1 z:=⟨h.1,h.2.1,h.2.2.1⟩
theorem numH.X {m:Int} {l l1:TX} {o o1:Prop} {z:Int} (h:numH l l1 o o1 m z):zM m l l1 o o1 z:=⟨h.1,h.2.1,h.2.2.1⟩
theorem tp {l:TX} (h:l≠[]):l=l.headD []::l.tail:=by
 cases l with
 |nil=>exact absurd rfl h
 |cons a r=>rfl
theorem dp {m c z:Int} {l l1 r:TX} {o o1:Prop} (h:zM m l l1 o o1 z) (hm:m≤18446744073709551615) (hc:0≤c∧c≤m) (ho:¬o) (hl:l=Lib.itoa c::r):c=z∧¬o1∧l1=r:=by
 obtain⟨rfl,h2,h3⟩:=h
 subst hl
 simp only[List.headD_cons,List.tail_cons]at h2 h3 ⊢
 have e:=h3 ⟨c,dI hc.1 hc.2⟩
 exact⟨pF hm hm (dI hc.1 hc.2) e,by rw[h2];simp[ho,e],trivial⟩
theorem dq {m z:Int} {l l1:TX} {o o1:Prop} (h:zM m l l1 o o1 z) (ho:¬o1):¬o∧l=Lib.itoa z::l1∧0≤z∧z≤m:=by
 obtain⟨rfl,h2,_⟩:=h
 rw[h2,not_or,Classical.not_not]at ho
 refine⟨ho.1,?_,ho.2.1,ho.2.2.1⟩
 have e:=tp (RI ho.2)
 rw[ho.2.2.2]at e
 exact e
theorem Gz {l l1 r:TX} {o o1:Prop} {s c:List UInt8} (h:db l l1 o o1 s) (ho:¬o) (hl:l=c::r):s=c∧¬o1∧l1=r:=by
 obtain⟨rfl,rfl,h2⟩:=h
 subst hl
 exact⟨rfl,by rw[h2];simp[ho],rfl⟩
theorem GA {l l1:TX} {o o1:Prop} {s:List UInt8} (h:db l l1 o o1 s) (ho:¬o1):¬o∧l=s::l1:=by
 obtain⟨rfl,rfl,h2⟩:=h
 rw[h2,not_or]at ho
 exact⟨ho.1,tp ho.2⟩
theorem GX {l l1 r:TX} {o o1:Prop} {t:List UInt8} (h:Bt l l1 o o1 t) (ho:¬o) (hl:l=t::r):¬o1∧l1=r:=by
 obtain⟨rfl,h2⟩:=h
 subst hl
 exact⟨by rw[h2];simp[ho],rfl⟩
theorem GY {l l1:TX} {o o1:Prop} {t:List UInt8} (h:Bt l l1 o o1 t) (ho:¬o1):¬o∧l=t::l1:=by
 obtain⟨rfl,h2⟩:=h
 rw[h2,not_or,not_or,Classical.not_not]at ho
 refine⟨ho.1,?_⟩
 have e:=tp ho.2.1
 rw[ho.2.2]at e
 exact e
theorem TM {a:St} {l l1 l2 l3 l4:TX} {o0 o1 o2 o3 o4 q:Prop} {s t u v:List UInt8} {y z:Int} (h1:Bt l l1 o0 o1 t) (ht:t=qE) (h2:numN l1 l2 o1 o2 y) (h3:numN l2 l3 o2 o3 z) (h4:db l3 l4 o3 o4 s) (ho:¬o0) (hu:u=mU) (hv:v=Bd)
  (hq:q↔(¬o4∧l4=[])∧(s=u∨s=v)∧(a.gs.length:Int)+1≤4):(q→Hs a l {a with gs:=a.gs++[⟨y,z,s=u⟩]})∧(¬q→∀b,¬Hs a l b):=by
 subst hu;subst hv;subst ht
 constructor
 ·intro hq'
  obtain⟨⟨e1,e2⟩,e3,e4⟩:=hq.1 hq'
  obtain⟨f1,f2⟩:=GA h4 e1
  obtain⟨f3,f4,f5⟩:=dq h3.X f1
  obtain⟨f6,f7,f8⟩:=dq h2.X f3
  obtain⟨f9,f10⟩:=GY h1 f6
  refine⟨by omega,⟨y,z,s=mU⟩,⟨f8,f5⟩,?_,rfl⟩
  have e5:uP (s=mU)=s:=by
   unfold uP
   by_cases hs:s=mU
   ·rw[if_pos hs,hs]
   ·rw[if_neg hs]
    rcases e3 with e3|e3
    ·exact absurd e3 hs
    ·exact e3.symm
  rw[f10,f7,f4,f2,e2,eV,e5]
 ·intro hn b hb
  obtain⟨g1,g,g2,g3,_⟩:=hb
  obtain⟨f1,f2⟩:=GX h1 ho g3
  obtain⟨f3,f4,f5⟩:=dp h2.X (by decide) g2.1 f1 f2
  obtain⟨f6,f7,f8⟩:=dp h3.X (by decide) g2.2 f4 f5
  obtain⟨f9,f10,f11⟩:=Gz h4 f7 f8
  refine hn (hq.2 ⟨⟨f10,f11⟩,?_,by omega⟩)
  rw[f9]
  unfold uP
  by_cases hc:g.c
  ·rw[if_pos hc];exact .inl rfl
  ·rw[if_neg hc];exact .inr rfl
theorem Sv {a:St} {l l1 l2:TX} {o0 o1 o2 q:Prop} {t:List UInt8} {z:Int} (h1:Bt l l1 o0 o1 t) (ht:t=xU a.set) (h2:zM (rz a.set) l1 l2 o1 o2 z) (ho:¬o0)
  (hq:q↔(¬o2∧l2=[])∧a.gs≠[]):(q→pY a l {a with cf:=fo a.cf a.set z,set:=a.set+1})∧(¬q→∀b,¬pY a l b):=by
 subst ht
 constructor
 ·intro hq'
  obtain⟨⟨e1,e2⟩,e3⟩:=hq.1 hq'
  obtain⟨f1,f2,f3⟩:=dq h2 e1
  obtain⟨f4,f5⟩:=GY h1 f1
  exact⟨e3,z,f3,by rw[f5,f2,e2],rfl⟩
 ·intro hn b hb
  obtain⟨g1,y,g2,g3,_⟩:=hb
  obtain⟨f1,f2⟩:=GX h1 ho g3
  obtain⟨f3,f4,f5⟩:=dp h2 (by unfold rz;split<;>decide) g2 f1 f2
  exact hn (hq.2 ⟨⟨f4,f5⟩,g1⟩)
def er (o:aI) (k x y i a mode mask:Int):Prop:=o.kind=k∧o.x=x∧o.y=y∧o.i=i∧o.at_=a∧o.mode=mode∧o.mask=mask
theorem jd {a b:St} {l l1 ls:TX} {o0 o1 os_ q:Prop} {w:List UInt8} {k:Int} {SN:aI→Prop} {E:Prop} (h1:db l l1 o0 o1 w) (hk:ll k=w) (ho:¬o0) (hk0:0≤k∧k≤11)
  (hF:∀o',cA o'→o'.kind=k→∀r,¬o1→l1=de o'++r→SN o'∧¬os_∧ls=r)
  (hB:∀o',cA o'→SN o'→¬os_→¬o1∧o'.kind=k∧l1=de o'++ls)
  (hp:(q→E∧∃o',cA o'∧SN o'∧¬os_∧ls=o'.ps.map aX∧b={a with os:=a.os++[cx o']})∧(¬q→∀o',cA o'→SN o'→¬(¬os_∧ls=o'.ps.map aX))):
  (q→E∧fJ a l b)∧(¬q→∀b,¬fJ a l b):=by
 constructor
 ·intro hq
  obtain⟨hE,o',e1,e2,e3,e4,e5⟩:=hp.1 hq
  obtain⟨f1,f2,f3⟩:=hB o' e1 e2 e3
  obtain⟨f4,f5⟩:=GA h1 f1
  exact⟨hE,o',e1,by rw[f5,f3,e4,←hk,←f2,ga],e5⟩
 ·intro hn b ⟨o',e1,e2,_⟩
  obtain⟨f1,f2,f3⟩:=Gz h1 ho e2
  have f4:o'.kind=k:=(ze hk0 (nB e1.1) (hk.trans f1)).symm
  obtain⟨f5,f6,f7⟩:=hF o' e1 f4 _ f2 f3
  exact hp.2 hn o' e1 f5 ⟨f6,f7⟩
theorem SS {a:St} {l l1:TX} {o0 o1:Prop} {w:List UInt8} (h1:db l l1 o0 o1 w) (h:∀k,0≤k→k≤11→¬ll k=w):∀b,¬fJ a l b:=fun b ⟨o',e1,e2,_⟩=>by
 have hk:=nB e1.1
 refine h o'.kind hk.1 hk.2 ?_
 rw[h1.1,e2];rfl
theorem Rk {z:Int} (h:z≤4294967295) (h0:0≤z):(aw 3).wrap z=z:=IntWalk.u32_in z ⟨h0,h⟩
theorem iY (z:Int):0≤(aw 3).wrap z∧(aw 3).wrap z≤4294967295:=by
 show 0≤IntKind.u32.wrap z∧IntKind.u32.wrap z≤_
 rw[IntKind.wrap_u32];omega
theorem Bj {l l1:TX} {o o1:Prop} {z:Int} (h:numH l l1 o o1 4294967295 z):zM 4294967295 l l1 o o1 ((aw 3).wrap z):=by
 obtain⟨h1,h2,h3,h4,h5⟩:=h
 have e:cb 4294967295 (l.headD []) ((aw 3).wrap z)↔cb 4294967295 (l.headD []) z∨(cb 4294967295 (l.headD []) ((aw 3).wrap z)∧¬z≤4294967295):=by
  by_cases h:z≤4294967295
  ·rw[Rk h h4];simp[h]
  ·simp[h];intro q;exact absurd q.2.1 h
 have e2:cb 4294967295 (l.headD []) z→z=(aw 3).wrap z:=fun q=>(Rk q.2.1 q.1).symm
 have e3:cb 4294967295 (l.headD []) ((aw 3).wrap z)→cb 4294967295 (l.headD []) z:=fun q=>h3 ⟨_,q⟩
 have e4:cb 4294967295 (l.headD []) ((aw 3).wrap z)↔cb 4294967295 (l.headD []) z:=⟨e3,fun q=>(e2 q)▸q⟩
 exact⟨h1,by rw[h2,e4],fun q=>e4.2 (h3 q)⟩
theorem CH {o p:aI} (h:cx o=cx p):cS o↔cS p:=by
 obtain⟨k,x,y,i,a,m,ma,g,hp,ps⟩:=o
 obtain⟨k',x',y',i',a',m',ma',g',hp',ps'⟩:=p
 simp only[cx,aa1]at h
 obtain⟨⟨rfl,rfl,rfl,rfl,rfl,rfl⟩,rfl,rfl,rfl⟩:=h
 exact Iff.rfl
theorem Nw {o:aI} (h:cS o) (hm:0≤o.mask∧o.mask≤4294967295) (hp:∀x∈o.ps,sR x):Wz o:=by
 unfold Wz AK
 refine⟨?_,hm,?_,hp⟩
 ·unfold cS at h
  rcases h with h|h|h|h|h|h|h|h|h|h|h|h<;>omega
 ·unfold cS at h
  rcases h with h|h|h|h|h|h|h|h|h|h|h|h
  ·obtain⟨p,h1,h2⟩:=h.2.2.2.2.2.2.2.2.1
   have:=(hp p (List.mem_of_getElem? h1)).1
   omega
  all_goals omega
theorem Wu {a:St} {l l2:TX} {odd odd2 q:Prop} {O:aI} (hps:∀p∈O.ps,dm p) (hl:l=O.ps.map aX++l2) (hodd:odd2↔odd) (hstop:odd∨¬O.kind=0∨l2=[]) (hk:¬O.kind=0→O.ps=[])
  (hgr:(O.ps=[]∧O.grp=0)∨∃p,O.ps[0]?=some p∧O.grp=p.g) (hm:0≤O.mask∧O.mask≤4294967295) (hq:q↔¬odd2∧l2=[]∧cS O):
  (q→∃o',cA o'∧er o' O.kind O.x O.y O.i O.at_ O.mode O.mask∧¬odd∧l=o'.ps.map aX∧{a with os:=a.os++[cx O]}={a with os:=a.os++[cx o']})∧
  (¬q→∀o',cA o'→er o' O.kind O.x O.y O.i O.at_ O.mode O.mask→¬(¬odd∧l=o'.ps.map aX)):=by
 constructor
 ·intro hq'
  obtain⟨e1,e2,e3⟩:=hq.1 hq'
  refine⟨O,⟨e3,Nw e3 hm fun x hx=>(hps x hx).2⟩,⟨rfl,rfl,rfl,rfl,rfl,rfl,rfl⟩,fun h=>e1 (hodd.2 h),by rw[hl,e2,List.append_nil],rfl⟩
 ·intro hn o' h1 h2 ⟨h3,h4⟩
  obtain⟨s1,s2,s3,s4,s5,s6,s7⟩:=h2
  have hpo:=nA h1
  have hR:=h1.1
  by_cases hkd:O.kind=0
  ·have e1:l2=[]:=by
    rcases hstop with h|h|h
    ·exact absurd h h3
    ·exact absurd hkd h
    ·exact h
   have e2:O.ps=o'.ps:=rj hps hpo (by rw[←h4,hl,e1,List.append_nil])
   have e3:=(Bg (s1.trans hkd)).1 hR
   obtain⟨p,e4,e5⟩:=e3.2.2.2.2.2.2.2.1
   have e6:O.grp=o'.grp:=by
    rcases hgr with⟨h,_⟩|⟨p',h,h'⟩
    ·rw[←e2,h]at e4;cases e4
    ·rw[e2,e4]at h;cases h
     rw[h',e5]
   refine hn (hq.2 ⟨fun h=>h3 (hodd.1 h),e1,(CH ?_).1 hR⟩)
   simp only[cx,s1,s2,s3,s4,s5,s6,s7,e2,e6]
  ·have e1:=hk hkd
   have e0:o'.ps=[]∧o'.grp=0:=by
    unfold cS at hR
    rw[s1]at hR
    rcases hR with h|h|h|h|h|h|h|h|h|h|h|h
    ·exact absurd h.1 hkd
    all_goals(refine⟨?_,?_⟩<;>simp only[h])
   have e2:l2=[]:=by rw[h4,e0.1,e1]at hl;simpa using hl.symm
   have e6:O.grp=0:=by
    rcases hgr with⟨_,h⟩|⟨p,h,_⟩
    ·exact h
    ·rw[e1]at h;cases h
   refine hn (hq.2 ⟨fun h=>h3 (hodd.1 h),e2,(CH ?_).1 hR⟩)
   simp only[cx,s1,s2,s3,s4,s5,s6,s7,e1,e6,e0.1,e0.2]
theorem Wv {l:TX} {odd:Prop} {SN:aI→Prop} {x:List UInt8} (hx:x∈l) (h:∀p,dm p→¬x=aX p):∀o',cA o'→SN o'→¬(¬odd∧l=o'.ps.map aX):=fun o' h1 _ ⟨_,e⟩=>by
 rw[e]at hx
 obtain⟨p,hp,rfl⟩:=List.mem_map.1 hx
 exact h p (nA h1 p hp) rfl
theorem Zb {a b:St} {l l1 l2 l3:TX} {o0 o1 o2 o3 q E:Prop} {w:List UInt8} {z1 z2:Int} (h1:db l l1 o0 o1 w) (hk:([105,110,118,111,107,101]:List Nat).map aaY=w) (g1:numN l1 l2 o1 o2 z1) (g2:numN l2 l3 o2 o3 z2) (ho:¬o0)
  (hp:(q→E∧∃o',cA o'∧er o' 0 z1 0 0 0 z2 0∧¬o3∧l3=o'.ps.map aX∧b={a with os:=a.os++[cx o']})∧(¬q→∀o',cA o'→er o' 0 z1 0 0 0 z2 0→¬(¬o3∧l3=o'.ps.map aX))):
  (q→E∧fJ a l b)∧(¬q→∀b,¬fJ a l b):=by
 refine jd (SN:=fun o'=>er o' 0 z1 0 0 0 z2 0) (k:=0) h1 (hk▸by decide) ho (by decide) (fun o' e1 e2 r e3 e4=> ?_) (fun o' e1 e2 e3=> ?_) hp
 ·have e5:=(Bg e2).1 e1.1
  have em:=e1.2.2.1
  have e6:l1=Lib.itoa o'.x::Lib.itoa o'.mode::r:=by rw[e4];simp[de,e2]
  obtain⟨a0,b0,c0⟩:=dp g1.X (by decide) (by omega) e3 e6
  obtain⟨a1,b1,c1⟩:=dp g2.X (by decide) (by omega) b0 c0
  exact⟨⟨e2,a0,by omega,by omega,by omega,a1,by omega⟩,b1,c1⟩
 ·obtain⟨s1,s2,s3,s4,s5,s6,s7⟩:=e2
  obtain⟨a1,b1,_⟩:=dq g2.X e3
  obtain⟨a0,b0,_⟩:=dq g1.X a1
  refine⟨a0,s1,?_⟩
  rw[b0,b1]
  simp[de,s1,s2,s6]
theorem Za {a b:St} {l l1 l2 l3:TX} {o0 o1 o2 o3 q E:Prop} {w:List UInt8} {z1 z2:Int} (h1:db l l1 o0 o1 w) (hk:([115,108,97,121]:List Nat).map aaY=w) (g1:numN l1 l2 o1 o2 z1) (g2:numN l2 l3 o2 o3 z2) (ho:¬o0)
  (hp:(q→E∧∃o',cA o'∧er o' 1 z1 z2 0 0 0 0∧¬o3∧l3=o'.ps.map aX∧b={a with os:=a.os++[cx o']})∧(¬q→∀o',cA o'→er o' 1 z1 z2 0 0 0 0→¬(¬o3∧l3=o'.ps.map aX))):
  (q→E∧fJ a l b)∧(¬q→∀b,¬fJ a l b):=by
 refine jd (SN:=fun o'=>er o' 1 z1 z2 0 0 0 0) (k:=1) h1 (hk▸by decide) ho (by decide) (fun o' e1 e2 r e3 e4=> ?_) (fun o' e1 e2 e3=> ?_) hp
 ·have e5:=(LD e2).1 e1.1
  have em:=e1.2.2.1
  have e6:l1=Lib.itoa o'.x::Lib.itoa o'.y::r:=by rw[e4];simp[de,e2]
  obtain⟨a0,b0,c0⟩:=dp g1.X (by decide) (by omega) e3 e6
  obtain⟨a1,b1,c1⟩:=dp g2.X (by decide) (by omega) b0 c0
  exact⟨⟨e2,a0,a1,by omega,by omega,by omega,by omega⟩,b1,c1⟩
 ·obtain⟨s1,s2,s3,s4,s5,s6,s7⟩:=e2
  obtain⟨a1,b1,_⟩:=dq g2.X e3
  obtain⟨a0,b0,_⟩:=dq g1.X a1
  refine⟨a0,s1,?_⟩
  rw[b0,b1]
  simp[de,s1,s2,s3]
theorem YZ {a b:St} {l l1 l2:TX} {o0 o1 o2 q E:Prop} {w:List UInt8} {z1:Int} (h1:db l l1 o0 o1 w) (hk:([100,101,108,105,118,101,114]:List Nat).map aaY=w) (g1:numN l1 l2 o1 o2 z1) (ho:¬o0)
  (hp:(q→E∧∃o',cA o'∧er o' 2 0 0 z1 0 0 0∧¬o2∧l2=o'.ps.map aX∧b={a with os:=a.os++[cx o']})∧(¬q→∀o',cA o'→er o' 2 0 0 z1 0 0 0→¬(¬o2∧l2=o'.ps.map aX))):
  (q→E∧fJ a l b)∧(¬q→∀b,¬fJ a l b):=by
 refine jd (SN:=fun o'=>er o' 2 0 0 z1 0 0 0) (k:=2) h1 (hk▸by decide) ho (by decide) (fun o' e1 e2 r e3 e4=> ?_) (fun o' e1 e2 e3=> ?_) hp
 ·have e5:=(LC e2).1 e1.1
  have em:=e1.2.2.1
  have e6:l1=Lib.itoa o'.i::r:=by rw[e4];simp[de,e2]
  obtain⟨a0,b0,c0⟩:=dp g1.X (by decide) (by omega) e3 e6
  exact⟨⟨e2,by omega,by omega,a0,by omega,by omega,by omega⟩,b0,c0⟩
 ·obtain⟨s1,s2,s3,s4,s5,s6,s7⟩:=e2
  obtain⟨a0,b0,_⟩:=dq g1.X e3
  refine⟨a0,s1,?_⟩
  rw[b0]
  simp[de,s1,s4]
theorem YY {a b:St} {l l1 l2:TX} {o0 o1 o2 q E:Prop} {w:List UInt8} {z1:Int} (h1:db l l1 o0 o1 w) (hk:([100,114,111,112]:List Nat).map aaY=w) (g1:numN l1 l2 o1 o2 z1) (ho:¬o0)
  (hp:(q→E∧∃o',cA o'∧er o' 3 0 0 z1 0 0 0∧¬o2∧l2=o'.ps.map aX∧b={a with os:=a.os++[cx o']})∧(¬q→∀o',cA o'→er o' 3 0 0 z1 0 0 0→¬(¬o2∧l2=o'.ps.map aX))):
  (q→E∧fJ a l b)∧(¬q→∀b,¬fJ a l b):=by
 refine jd (SN:=fun o'=>er o' 3 0 0 z1 0 0 0) (k:=3) h1 (hk▸by decide) ho (by decide) (fun o' e1 e2 r e3 e4=> ?_) (fun o' e1 e2 e3=> ?_) hp
 ·have e5:=(LB e2).1 e1.1
  have em:=e1.2.2.1
  have e6:l1=Lib.itoa o'.i::r:=by rw[e4];simp[de,e2]
  obtain⟨a0,b0,c0⟩:=dp g1.X (by decide) (by omega) e3 e6
  exact⟨⟨e2,by omega,by omega,a0,by omega,by omega,by omega⟩,b0,c0⟩
 ·obtain⟨s1,s2,s3,s4,s5,s6,s7⟩:=e2
  obtain⟨a0,b0,_⟩:=dq g1.X e3
  refine⟨a0,s1,?_⟩
  rw[b0]
  simp[de,s1,s4]
theorem YX {a b:St} {l l1 l2:TX} {o0 o1 o2 q E:Prop} {w:List UInt8} {z1:Int} (h1:db l l1 o0 o1 w) (hk:([116,119,105,99,101]:List Nat).map aaY=w) (g1:numN l1 l2 o1 o2 z1) (ho:¬o0)
  (hp:(q→E∧∃o',cA o'∧er o' 4 0 0 z1 0 0 0∧¬o2∧l2=o'.ps.map aX∧b={a with os:=a.os++[cx o']})∧(¬q→∀o',cA o'→er o' 4 0 0 z1 0 0 0→¬(¬o2∧l2=o'.ps.map aX))):
  (q→E∧fJ a l b)∧(¬q→∀b,¬fJ a l b):=by
 refine jd (SN:=fun o'=>er o' 4 0 0 z1 0 0 0) (k:=4) h1 (hk▸by decide) ho (by decide) (fun o' e1 e2 r e3 e4=> ?_) (fun o' e1 e2 e3=> ?_) hp
 ·have e5:=(LA e2).1 e1.1
  have em:=e1.2.2.1
  have e6:l1=Lib.itoa o'.i::r:=by rw[e4];simp[de,e2]
  obtain⟨a0,b0,c0⟩:=dp g1.X (by decide) (by omega) e3 e6
  exact⟨⟨e2,by omega,by omega,a0,by omega,by omega,by omega⟩,b0,c0⟩
 ·obtain⟨s1,s2,s3,s4,s5,s6,s7⟩:=e2
  obtain⟨a0,b0,_⟩:=dq g1.X e3
  refine⟨a0,s1,?_⟩
  rw[b0]
  simp[de,s1,s4]
theorem YW {a b:St} {l l1 l2 l3 l4:TX} {o0 o1 o2 o3 o4 q E:Prop} {w:List UInt8} {z1 z2 z3:Int} (h1:db l l1 o0 o1 w) (hk:([115,112,111,105,108]:List Nat).map aaY=w) (g1:numN l1 l2 o1 o2 z1) (g2:numN l2 l3 o2 o3 z2) (g3:numH l3 l4 o3 o4 4294967295 z3) (ho:¬o0)
  (hp:(q→E∧∃o',cA o'∧er o' 5 0 0 z1 z2 0 ((aw 3).wrap z3)∧¬o4∧l4=o'.ps.map aX∧b={a with os:=a.os++[cx o']})∧(¬q→∀o',cA o'→er o' 5 0 0 z1 z2 0 ((aw 3).wrap z3)→¬(¬o4∧l4=o'.ps.map aX))):
  (q→E∧fJ a l b)∧(¬q→∀b,¬fJ a l b):=by
 refine jd (SN:=fun o'=>er o' 5 0 0 z1 z2 0 ((aw 3).wrap z3)) (k:=5) h1 (hk▸by decide) ho (by decide) (fun o' e1 e2 r e3 e4=> ?_) (fun o' e1 e2 e3=> ?_) hp
 ·have e5:=(Lz e2).1 e1.1
  have em:=e1.2.2.1
  have e6:l1=Lib.itoa o'.i::Lib.itoa o'.at_::Lib.itoa o'.mask::r:=by rw[e4];simp[de,e2]
  obtain⟨a0,b0,c0⟩:=dp g1.X (by decide) (by omega) e3 e6
  obtain⟨a1,b1,c1⟩:=dp g2.X (by decide) (by omega) b0 c0
  obtain⟨a2,b2,c2⟩:=dp (Bj g3) (by decide) em b1 c1
  exact⟨⟨e2,by omega,by omega,a0,a1,by omega,a2⟩,b2,c2⟩
 ·obtain⟨s1,s2,s3,s4,s5,s6,s7⟩:=e2
  obtain⟨a2,b2,_⟩:=dq (Bj g3) e3
  obtain⟨a1,b1,_⟩:=dq g2.X a2
  obtain⟨a0,b0,_⟩:=dq g1.X a1
  refine⟨a0,s1,?_⟩
  rw[b0,b1,b2]
  simp[de,s1,s4,s5,s7]
theorem YV {a b:St} {l l1 l2:TX} {o0 o1 o2 q E:Prop} {w:List UInt8} {z1:Int} (h1:db l l1 o0 o1 w) (hk:([116,105,99,107]:List Nat).map aaY=w) (g1:numN l1 l2 o1 o2 z1) (ho:¬o0)
  (hp:(q→E∧∃o',cA o'∧er o' 6 z1 0 0 0 0 0∧¬o2∧l2=o'.ps.map aX∧b={a with os:=a.os++[cx o']})∧(¬q→∀o',cA o'→er o' 6 z1 0 0 0 0 0→¬(¬o2∧l2=o'.ps.map aX))):
  (q→E∧fJ a l b)∧(¬q→∀b,¬fJ a l b):=by
 refine jd (SN:=fun o'=>er o' 6 z1 0 0 0 0 0) (k:=6) h1 (hk▸by decide) ho (by decide) (fun o' e1 e2 r e3 e4=> ?_) (fun o' e1 e2 e3=> ?_) hp
 ·have e5:=(Ly e2).1 e1.1
  have em:=e1.2.2.1
  have e6:l1=Lib.itoa o'.x::r:=by rw[e4];simp[de,e2]
  obtain⟨a0,b0,c0⟩:=dp g1.X (by decide) (by omega) e3 e6
  exact⟨⟨e2,a0,by omega,by omega,by omega,by omega,by omega⟩,b0,c0⟩
 ·obtain⟨s1,s2,s3,s4,s5,s6,s7⟩:=e2
  obtain⟨a0,b0,_⟩:=dq g1.X e3
  refine⟨a0,s1,?_⟩
  rw[b0]
  simp[de,s1,s2]
theorem YU {a b:St} {l l1 l2 l3:TX} {o0 o1 o2 o3 q E:Prop} {w:List UInt8} {z1 z2:Int} (h1:db l l1 o0 o1 w) (hk:([115,117,115,112,101,99,116]:List Nat).map aaY=w) (g1:numN l1 l2 o1 o2 z1) (g2:numN l2 l3 o2 o3 z2) (ho:¬o0)
  (hp:(q→E∧∃o',cA o'∧er o' 7 z1 z2 0 0 0 0∧¬o3∧l3=o'.ps.map aX∧b={a with os:=a.os++[cx o']})∧(¬q→∀o',cA o'→er o' 7 z1 z2 0 0 0 0→¬(¬o3∧l3=o'.ps.map aX))):
  (q→E∧fJ a l b)∧(¬q→∀b,¬fJ a l b):=by
 refine jd (SN:=fun o'=>er o' 7 z1 z2 0 0 0 0) (k:=7) h1 (hk▸by decide) ho (by decide) (fun o' e1 e2 r e3 e4=> ?_) (fun o' e1 e2 e3=> ?_) hp
 ·have e5:=(Lx e2).1 e1.1
  have em:=e1.2.2.1
  have e6:l1=Lib.itoa o'.x::Lib.itoa o'.y::r:=by rw[e4];simp[de,e2]
  obtain⟨a0,b0,c0⟩:=dp g1.X (by decide) (by omega) e3 e6
  obtain⟨a1,b1,c1⟩:=dp g2.X (by decide) (by omega) b0 c0
  exact⟨⟨e2,a0,a1,by omega,by omega,by omega,by omega⟩,b1,c1⟩
 ·obtain⟨s1,s2,s3,s4,s5,s6,s7⟩:=e2
  obtain⟨a1,b1,_⟩:=dq g2.X e3
  obtain⟨a0,b0,_⟩:=dq g1.X a1
  refine⟨a0,s1,?_⟩
  rw[b0,b1]
  simp[de,s1,s2,s3]
theorem YT {a b:St} {l l1 l2:TX} {o0 o1 o2 q E:Prop} {w:List UInt8} {z1:Int} (h1:db l l1 o0 o1 w) (hk:([99,114,97,115,104]:List Nat).map aaY=w) (g1:numN l1 l2 o1 o2 z1) (ho:¬o0)
  (hp:(q→E∧∃o',cA o'∧er o' 8 z1 0 0 0 0 0∧¬o2∧l2=o'.ps.map aX∧b={a with os:=a.os++[cx o']})∧(¬q→∀o',cA o'→er o' 8 z1 0 0 0 0 0→¬(¬o2∧l2=o'.ps.map aX))):
  (q→E∧fJ a l b)∧(¬q→∀b,¬fJ a l b):=by
 refine jd (SN:=fun o'=>er o' 8 z1 0 0 0 0 0) (k:=8) h1 (hk▸by decide) ho (by decide) (fun o' e1 e2 r e3 e4=> ?_) (fun o' e1 e2 e3=> ?_) hp
 ·have e5:=(Lw e2).1 e1.1
  have em:=e1.2.2.1
  have e6:l1=Lib.itoa o'.x::r:=by rw[e4];simp[de,e2]
  obtain⟨a0,b0,c0⟩:=dp g1.X (by decide) (by omega) e3 e6
  exact⟨⟨e2,a0,by omega,by omega,by omega,by omega,by omega⟩,b0,c0⟩
 ·obtain⟨s1,s2,s3,s4,s5,s6,s7⟩:=e2
  obtain⟨a0,b0,_⟩:=dq g1.X e3
  refine⟨a0,s1,?_⟩
  rw[b0]
  simp[de,s1,s2]
theorem YS {a b:St} {l l1 l2:TX} {o0 o1 o2 q E:Prop} {w:List UInt8} {z1:Int} (h1:db l l1 o0 o1 w) (hk:([114,101,115,116,97,114,116]:List Nat).map aaY=w) (g1:numN l1 l2 o1 o2 z1) (ho:¬o0)
  (hp:(q→E∧∃o',cA o'∧er o' 9 z1 0 0 0 0 0∧¬o2∧l2=o'.ps.map aX∧b={a with os:=a.os++[cx o']})∧(¬q→∀o',cA o'→er o' 9 z1 0 0 0 0 0→¬(¬o2∧l2=o'.ps.map aX))):
  (q→E∧fJ a l b)∧(¬q→∀b,¬fJ a l b):=by
 refine jd (SN:=fun o'=>er o' 9 z1 0 0 0 0 0) (k:=9) h1 (hk▸by decide) ho (by decide) (fun o' e1 e2 r e3 e4=> ?_) (fun o' e1 e2 e3=> ?_) hp
 ·have e5:=(Lv e2).1 e1.1
  have em:=e1.2.2.1
  have e6:l1=Lib.itoa o'.x::r:=by rw[e4];simp[de,e2]
  obtain⟨a0,b0,c0⟩:=dp g1.X (by decide) (by omega) e3 e6
  exact⟨⟨e2,a0,by omega,by omega,by omega,by omega,by omega⟩,b0,c0⟩
 ·obtain⟨s1,s2,s3,s4,s5,s6,s7⟩:=e2
  obtain⟨a0,b0,_⟩:=dq g1.X e3
  refine⟨a0,s1,?_⟩
  rw[b0]
  simp[de,s1,s2]
theorem WM {a b:St} {l l1 l2:TX} {o0 o1 o2 q E:Prop} {w:List UInt8} {z1:Int} (h1:db l l1 o0 o1 w) (hk:([106,111,105,110]:List Nat).map aaY=w) (g1:numN l1 l2 o1 o2 z1) (ho:¬o0)
  (hp:(q→E∧∃o',cA o'∧er o' 10 z1 0 0 0 0 0∧¬o2∧l2=o'.ps.map aX∧b={a with os:=a.os++[cx o']})∧(¬q→∀o',cA o'→er o' 10 z1 0 0 0 0 0→¬(¬o2∧l2=o'.ps.map aX))):
  (q→E∧fJ a l b)∧(¬q→∀b,¬fJ a l b):=by
 refine jd (SN:=fun o'=>er o' 10 z1 0 0 0 0 0) (k:=10) h1 (hk▸by decide) ho (by decide) (fun o' e1 e2 r e3 e4=> ?_) (fun o' e1 e2 e3=> ?_) hp
 ·have e5:=(Gm e2).1 e1.1
  have em:=e1.2.2.1
  have e6:l1=Lib.itoa o'.x::r:=by rw[e4];simp[de,e2]
  obtain⟨a0,b0,c0⟩:=dp g1.X (by decide) (by omega) e3 e6
  exact⟨⟨e2,a0,by omega,by omega,by omega,by omega,by omega⟩,b0,c0⟩
 ·obtain⟨s1,s2,s3,s4,s5,s6,s7⟩:=e2
  obtain⟨a0,b0,_⟩:=dq g1.X e3
  refine⟨a0,s1,?_⟩
  rw[b0]
  simp[de,s1,s2]
theorem WL {a b:St} {l l1 l2:TX} {o0 o1 o2 q E:Prop} {w:List UInt8} {z1:Int} (h1:db l l1 o0 o1 w) (hk:([108,101,97,118,101]:List Nat).map aaY=w) (g1:numN l1 l2 o1 o2 z1) (ho:¬o0)
  (hp:(q→E∧∃o',cA o'∧er o' 11 z1 0 0 0 0 0∧¬o2∧l2=o'.ps.map aX∧b={a with os:=a.os++[cx o']})∧(¬q→∀o',cA o'→er o' 11 z1 0 0 0 0 0→¬(¬o2∧l2=o'.ps.map aX))):
  (q→E∧fJ a l b)∧(¬q→∀b,¬fJ a l b):=by
 refine jd (SN:=fun o'=>er o' 11 z1 0 0 0 0 0) (k:=11) h1 (hk▸by decide) ho (by decide) (fun o' e1 e2 r e3 e4=> ?_) (fun o' e1 e2 e3=> ?_) hp
 ·have e5:=(Gl e2).1 e1.1
  have em:=e1.2.2.1
  have e6:l1=Lib.itoa o'.x::r:=by rw[e4];simp[de,e2]
  obtain⟨a0,b0,c0⟩:=dp g1.X (by decide) (by omega) e3 e6
  exact⟨⟨e2,a0,by omega,by omega,by omega,by omega,by omega⟩,b0,c0⟩
 ·obtain⟨s1,s2,s3,s4,s5,s6,s7⟩:=e2
  obtain⟨a0,b0,_⟩:=dq g1.X e3
  refine⟨a0,s1,?_⟩
  rw[b0]
  simp[de,s1,s2]
theorem Un {v:List UInt8} (h0:¬([105,110,118,111,107,101]:List Nat).map aaY=v) (h1:¬([115,108,97,121]:List Nat).map aaY=v) (h2:¬([100,101,108,105,118,101,114]:List Nat).map aaY=v) (h3:¬([100,114,111,112]:List Nat).map aaY=v) (h4:¬([116,119,105,99,101]:List Nat).map aaY=v) (h5:¬([115,112,111,105,108]:List Nat).map aaY=v) (h6:¬([116,105,99,107]:List Nat).map aaY=v) (h7:¬([115,117,115,112,101,99,116]:List Nat).map aaY=v) (h8:¬([99,114,97,115,104]:List Nat).map aaY=v) (h9:¬([114,101,115,116,97,114,116]:List Nat).map aaY=v) (h10:¬([106,111,105,110]:List Nat).map aaY=v) (h11:¬([108,101,97,118,101]:List Nat).map aaY=v):∀k,0≤k→k≤11→¬ll k=v:=fun k a b e=>by
 obtain q|q|q|q|q|q|q|q|q|q|q|q:k=0∨k=1∨k=2∨k=3∨k=4∨k=5∨k=6∨k=7∨k=8∨k=9∨k=10∨k=11:=by omega
 all_goals subst q
 ·exact h0 (e▸by decide)
 ·exact h1 (e▸by decide)
 ·exact h2 (e▸by decide)
 ·exact h3 (e▸by decide)
 ·exact h4 (e▸by decide)
 ·exact h5 (e▸by decide)
 ·exact h6 (e▸by decide)
 ·exact h7 (e▸by decide)
 ·exact h8 (e▸by decide)
 ·exact h9 (e▸by decide)
 ·exact h10 (e▸by decide)
 ·exact h11 (e▸by decide)
end Go.Proofs.Tryz
namespace Go.Proofs.Tryz
open Go.Proofs.YtacomabmhnodlaaGreatDoor (uJ lz tP kg oA lT nV)
open Go Go.RowKit Go.Sy
open Go.Eng hiding ai
set_option maxRecDepth 1000000
set_option linter.unusedVariables false
set_option maxHeartbeats 4000000
structure ZS where
 hl:Value
 l:List (List UInt8)
 odd:Prop
structure ah where
 hl:Value
 l:List (List UInt8)
 odd:Prop
 gs:List aM
 clients:Int
 window:Int
 deadline:Int
 pace:Int
 again:Int
 bag:Int
 first:Int
 os:List aI
 set:Int
 op:Prop
 line:Int
open Go.Txt (cb wds)
def dt (r:ah):St:=⟨r.gs,⟨r.clients,r.window,r.deadline,r.pace,r.again,r.bag,r.first⟩,r.os.map cx,r.set⟩
theorem yR {o q S:Prop} {l:TX} (h1:¬o) (h2:(l.length:Int)=0) (h3:q↔S):q↔¬o∧l=[]∧S:=⟨fun h=>⟨h1,aaX (by omega),h3.1 h⟩,fun h=>h3.2 h.2.2⟩
theorem yQ {o A S:Prop} (h:¬¬o):false=true↔¬o∧A∧S:=⟨fun q=>(by cases q),fun q=>absurd q.1 h⟩
theorem yP {o S:Prop} {l:TX} (h:¬(l.length:Int)=0):false=true↔¬o∧l=[]∧S:=⟨fun q=>(by cases q),fun q=>absurd (by rw[q.2.1];rfl) h⟩
def bU (l:TX):Prop:=l.length≤1000000∧∀x∈l,x.length≤100000
theorem Lg {l:TX} (h:bU l):bU l.tail:=⟨by have:=h.1;rw[List.length_tail];omega,fun x hx=>h.2 x (List.mem_of_mem_tail hx)⟩
theorem Pk {l:TX} (h:bU l):(l.headD []).length≤100000:=by
 cases l with
 |nil=>simp
 |cons a r=>exact h.2 a List.mem_cons_self
theorem Pj {l l1:TX} {o o1:Prop} {s:List UInt8} (h4:db l l1 o o1 s) (h:bU l):s.length≤100000:=by rw[h4.1];exact Pk h
theorem DH {b:UInt8} {s:List UInt8} (h:s.length≤100000):bU (wds b s):=MI h
theorem tQ {l:TX} (h:bU l):bU ((l.drop 1).take (l.length - 1)):=by rw[xA];exact Lg h
theorem Iz {α:Type} {l:List α} {x:α} (h:l[0]?=some x):l≠[]:=fun q=>by rw[q]at h;simp at h
noncomputable def zp (M:T):Bool:=match M.get 0 with
 |some (.blk _ _ _ ((_::_::_::_::_::_::_::_::_::_::_::.int _ _::_)::_))=>true
 |_=>false
noncomputable def Qw (M:T):Int:=match M.get 0 with
 |some (.blk _ _ _ ((_::_::_::_::_::_::_::_::_::_::_::.int _ z::_)::_))=>z
 |_=>0
noncomputable def Jz (M:T) (k:Nat):Bool:=Option.casesOn (M.get 0) false fun o=>AObj.casesOn o (fun _ _ n _=>Nat.beq n k) (fun _ _=>false) (fun _ _ _ _=>false) false (fun _ _ _ _ _=>false) (fun _ _ _ _ _ _ _=>false)
noncomputable def Rd (r:ah) (k0:Nat) (k1:Nat):T:=(.node (.node .leaf (some (.prow 82 3 aM r.gs aT)) .leaf) (some (.blk false 60 14 [[.sy (.imm r.hl 1 (List UInt8) r.l aG),.sy (.bool r.odd),.sy (.prow 1 k0),.sy (.int 0 r.clients),.sy (.int 0 r.window),.sy (.int 0 r.deadline),.sy (.int 0 r.pace),.sy (.int 0 r.again),.sy (.int 0 r.bag),.sy (.int 4 r.first),.sy (.prow 2 k1),.sy (.int 0 r.set),.sy (.bool r.op),.sy (.int 0 r.line)]])) (.node .leaf (some (.prow 54 9 aI r.os aV)) .leaf))
noncomputable def aO (r:ah):T:=Rd r r.gs.length r.os.length
noncomputable def Rz (r:ah) (k0:Nat) (k1:Nat):T:=(.node (.node .leaf (some (.prow 82 3 aM r.gs aT)) .leaf) (some (.blk false 60 14 [[.sy (.imm r.hl 1 (List UInt8) r.l aG),.sy (.bool r.odd),.sy (.prow 1 k0),.sy (.int 0 r.clients),.sy (.int 0 r.window),.sy (.int 0 r.deadline),.sy (.int 0 r.pace),.sy (.int 0 r.again),.sy (.int 0 r.bag),.sy (.int 4 r.first),.sy (.prow 2 k1),.int 0 r.set,.sy (.bool r.op),.sy (.int 0 r.line)]])) (.node .leaf (some (.prow 54 9 aI r.os aV)) .leaf))
noncomputable def iq (r:ah):T:=Rz r r.gs.length r.os.length
noncomputable def GM:=bN Eg 0 tP 103 []
theorem IX:aZ Tryz.prog GM:=aR uJ GP
noncomputable def sC:=bN GM 0 kg 47 []
theorem sY:aZ Tryz.prog sC:=aR lz IX
def uS:XF:=.mk 28 (.one 2) (.aft (.seq (g_ 1 [p_ 0 2 (.mv (.c (.str [])))]) (.seq (.seq (g_ 6 [p_ 0 4 (m_ 0),p_ 1 5 (n_ 4),p_ 2 6 (f_ 0 5),r_ 3 7 (l_ 6),p_ 4 8 (k_ 7),p_ 5 9 (.bin 3 4 (.t 8) (i_ 0))]) (.cond (.t 9) (.seq (g_ 4 [p_ 0 10 (m_ 0),p_ 1 11 (n_ 10),p_ 2 12 (f_ 1 11),bd 3 (.st 1 (.t 12) (.c (.bool true)))]) (.seq (g_ 1 [p_ 0 2 (.mv (.c (.str [])))]) .ret)) .skip)) (.seq (g_ 7 [p_ 0 13 (m_ 0),p_ 1 14 (n_ 13),p_ 2 15 (f_ 0 14),r_ 3 16 (l_ 15),p_ 4 17 (.ixs 1 (.t 16) (i_ 0)),r_ 5 18 (l_ 17),p_ 6 3 (m_ 18)]) (.seq (g_ 9 [p_ 0 19 (m_ 0),p_ 1 20 (m_ 0),p_ 2 21 (n_ 20),p_ 3 22 (f_ 0 21),r_ 4 23 (l_ 22),r_ 5 24 (.sls 1 (.t 23) (some (i_ 1)) none none),p_ 6 25 (n_ 19),p_ 7 26 (f_ 0 25),bd 8 (.st 1 (.t 26) (.t 24))]) (.seq (g_ 2 [p_ 0 27 (m_ 3),p_ 1 2 (m_ 27)]) .ret))))) [(0,[.upc 0 0 1,.up 2]),(1,[.upc 0 0 1,.up 2])])
theorem sF:ci Tryz.prog 78 uS=true:=by kernel_rfl
structure fL where
 r:ah
structure DC where
 s:List UInt8
 hl:Value
 l:List (List UInt8)
 odd:Prop
def du (p:fL) (r:DC):Prop:=(r.s=p.r.l.headD []∧r.l=p.r.l.tail∧(r.odd↔p.r.odd∨p.r.l=[]))∧bU r.l
noncomputable def iu (p:fL):IE:=([.ptr 0 0],(aO p.r),3)
noncomputable def vV (p:fL) (K:KE):Bool:=ai fun r:DC=>iP (du p r) (K (.sy (.str r.s)) (aO ({p.r with hl:=r.hl,l:=r.l,odd:=r.odd}:ah)) 3) true
def cX (p:fL):Prop:=bU p.r.l
theorem ED {p:fL} {K:KE} (hK:vV p K=true) (r:DC) (h:du p r:=by dsimp only[du]<;>(first|(have e:p.r.l=[]:=aaX (by omega);exact⟨by simp[e],hpre⟩)|exact⟨⟨xX (by assumption),xA _,by have e:=Iz (by assumption);simp[e]⟩,tQ hpre⟩)):K (.sy (.str r.s)) (aO ({p.r with hl:=r.hl,l:=r.l,odd:=r.odd}:ah)) 3=true:=aq h (az hK r)
theorem OS (p:fL) (K:KE) (hpre:cX p) (hK:vV p K=true):(cw 1 (cj sC) dC 600 uS (iu p).1 (iu p).2.1 (iu p).2.2 K)=true:=by
 refine Eq.trans (b:=(iP ((p.r.l.length:Int)=(0:Int)) (K (.sy (.str aW)) (aO ({p.r with odd:=true=true}:ah)) 3) (mP (0≤(0:Int)∧(0:Int)<(p.r.l.length:Int)) (ai fun x1:(List UInt8)=>iP (p.r.l[0]?=some x1) (mP (0≤(1:Int)∧(1:Int)≤(p.r.l.length:Int)∧(p.r.l.length:Int)≤(p.r.l.length:Int)) (K (.sy (.str x1)) (aO ({p.r with hl:=Hp p.r.hl 1 1 p.r.l.length,l:=(p.r.l.drop 1).take (p.r.l.length - 1)}:ah)) 3)) true)))) (by kernel_rfl) ?_
 dsimp only[cX]at hpre
 have hlen:=hpre.1
 refine iI (fun hc1=> ?_) (fun hc1=> ?_)
 exact ED hK ⟨aW,p.r.hl,p.r.l,true=true⟩
 refine bC ?_
 refine am (fun x1=> ?_)
 refine iI (fun hi2=> ?_) (fun _=>rfl)
 refine mI (by(first|omega|(simp[dW]<;>omega))) ?_
 exact ED hK ⟨x1,Hp p.r.hl 1 1 p.r.l.length,(p.r.l.drop 1).take (p.r.l.length - 1),p.r.odd⟩
noncomputable def Ae:co:=kO (fun us M=>Jz M 14) (ck iu (dP cX vV)) (fun _ _ _ _=>false)
theorem GG:bS Tryz.prog 78 1 Ae:=eM (cJ (f:=78) (k:=1) (aQ sY) sF (by rfl) (by rfl) OS) tb
noncomputable def wB:=bN sC 1 Ae 78 []
theorem wA:aZ Tryz.prog wB:=aR GG sY
def uQ:XF:=.mk 32 (.one 4) (.aft (.seq (g_ 1 [p_ 0 4 (.mv (.c (.int 4 (.ofNat 0))))]) (.seq (g_ 3 [p_ 0 8 (m_ 0),c_ 1 9 78 [.t 8],p_ 2 5 (m_ 9)]) (.seq (g_ 7 [p_ 0 11 (m_ 5),c_ 1 12 103 [.t 11,i_ 10,i_ 64],p_ 2 10 (m_ 12),p_ 3 13 (.ext 0 (.t 10)),p_ 4 14 (.ext 1 (.t 10)),p_ 5 6 (m_ 13),p_ 6 7 (m_ 14)]) (.seq (.seq (g_ 13 [p_ 0 15 (m_ 7),p_ 1 16 (.isn true 5 (.t 15)),p_ 2 17 (m_ 16),au 3 18 17 false (m_ 6),au 4 19 17 false (m_ 1),au 5 20 17 false (.bin 3 2 (.t 18) (.t 19)),p_ 6 21 (.pick (.t 17) (.c (.bool true)) (.t 20)),p_ 7 22 (m_ 21),au 8 23 22 false (m_ 6),il 9 24 22 false 61 [.t 23,i_ 10],au 10 25 22 false (m_ 5),au 11 26 22 false (.bin 5 1 (.t 24) (.t 25)),p_ 12 27 (.pick (.t 22) (.c (.bool true)) (.t 26))]) (.cond (.t 27) (g_ 4 [p_ 0 28 (m_ 0),p_ 1 29 (n_ 28),p_ 2 30 (f_ 1 29),bd 3 (.st 1 (.t 30) (.c (.bool true)))]) .skip)) (.seq (g_ 2 [p_ 0 31 (m_ 6),p_ 1 4 (m_ 31)]) .ret))))) [(0,[.upc 0 0 1,.up 4]),(1,[.upc 0 0 1,.up 4])])
theorem sE:ci Tryz.prog 80 uQ=true:=by kernel_rfl
structure mh where
 r:ah
 m:Int
structure Dw where
 z:Int
 hl:Value
 l:List (List UInt8)
 odd:Prop
def lr (p:mh) (r:Dw):Prop:=(r.l=p.r.l.tail∧(r.odd↔p.r.odd∨¬cb p.m (p.r.l.headD []) r.z)∧((∃z,cb p.m (p.r.l.headD []) z)→cb p.m (p.r.l.headD []) r.z)∧0≤r.z∧r.z≤18446744073709551615)∧bU r.l
noncomputable def pK (p:mh):IE:=([.ptr 0 0,.int 4 p.m],(aO p.r),3)
noncomputable def vO (p:mh) (K:KE):Bool:=ai fun r:Dw=>iP (lr p r) (K (.sy (.int 4 r.z)) (aO ({p.r with hl:=r.hl,l:=r.l,odd:=r.odd}:ah)) 3) true
def jv (p:mh):Prop:=bU p.r.l∧p.m≤18446744073709551615
theorem rK {p:mh} {K:KE} (hK:vO p K=true) (r:Dw) (h:lr p r:=by dsimp only[lr]<;>(refine⟨?_,by assumption⟩;first|exact Ck q3 (by assumption) (by assumption) (by assumption) (by assumption)|exact zg q3 (by assumption) (by assumption) (by first|exact .inl (by assumption)|exact .inr (by assumption))|exact zf q3 (by assumption) (by assumption) (by assumption))):K (.sy (.int 4 r.z)) (aO ({p.r with hl:=r.hl,l:=r.l,odd:=r.odd}:ah)) 3=true:=aq h (az hK r)
theorem OL (p:mh) (K:KE) (hpre:jv p) (hK:vO p K=true):(cw 1 (cj wB) dC 600 uQ (pK p).1 (pK p).2.1 (pK p).2.2 K)=true:=by
 refine Eq.trans (b:=(aH (([.ptr 0 0],(aO p.r),3)) iu cX du fun p1 r1=>mP (r1.s.length≤1000000) (ac (ai fun u1:Nat=>iP (Lib.parseMag r1.s= .ok u1∧u1≤18446744073709551615) (iP ((p.m:Int)<(u1:Int)) (K (.sy (.int 4 (u1:Int))) (aO ({p1.r with hl:=r1.hl,l:=r1.l,odd:=true=true}:ah)) 3) (mP (bb 4 (u1:Int)) (iP (¬(Lib.itoa (u1:Int))=r1.s) (K (.sy (.int 4 (u1:Int))) (aO ({p1.r with hl:=r1.hl,l:=r1.l,odd:=true=true}:ah)) 3) (K (.sy (.int 4 (u1:Int))) (aO ({p1.r with hl:=r1.hl,l:=r1.l,odd:=r1.odd}:ah)) 3)))) true) (iP (∀u,¬Lib.parseMag r1.s= .ok u) (ai fun z1:Int=>iP (0≤z1∧z1≤18446744073709551615) (ai fun e1:Nat=>K (.sy (.int 4 z1)) (aO ({p1.r with hl:=r1.hl,l:=r1.l,odd:=true=true}:ah)) 3) true) true)))) (by kernel_rfl) ?_
 dsimp only[jv]at hpre
 obtain⟨q1,q3⟩:=hpre
 have q2:=q1.2
 refine ay (⟨p.r⟩:fL) rfl (by(try dsimp only[cX]);assumption) fun r1 hi1=> ?_
 dsimp only[du]at hi1
 obtain⟨hi1,hs1⟩:=hi1
 refine mI (by exact Cj (by assumption) q2) ?_
 refine aE ?_ ?_
 refine am (fun u1=> ?_)
 refine iI (fun hi2=> ?_) (fun _=>rfl)
 refine iI (fun hc3=> ?_) (fun hc3=> ?_)
 exact rK hK ⟨(u1:Int),r1.hl,r1.l,true=true⟩
 refine fe ?_
 refine iI (fun hc4=> ?_) (fun hc4=> ?_)
 exact rK hK ⟨(u1:Int),r1.hl,r1.l,true=true⟩
 exact rK hK ⟨(u1:Int),r1.hl,r1.l,r1.odd⟩
 refine iI (fun hi5=> ?_) (fun _=>rfl)
 refine am (fun z1=> ?_)
 refine iI (fun hi6=> ?_) (fun _=>rfl)
 refine am (fun e1=> ?_)
 exact rK hK ⟨z1,r1.hl,r1.l,true=true⟩
noncomputable def Ac:co:=kO (fun us M=>Jz M 14) (ck pK (dP jv vO)) (fun _ _ _ _=>false)
theorem GE:bS Tryz.prog 80 1 Ac:=eM (cJ (f:=80) (k:=1) (aQ wA) sE (by rfl) (by rfl) OL) tb
noncomputable def wt:=bN wB 1 Ac 80 []
theorem wq:aZ Tryz.prog wt:=aR GE wA
def uR:XF:=.mk 6 (.one 2) (.aft (.seq (g_ 1 [p_ 0 2 (.mv (i_ 0))]) (.seq (g_ 4 [p_ 0 3 (m_ 0),c_ 1 4 80 [.t 3,.c (.int 4 (.ofNat 1099511627776))],p_ 2 5 (.cnw 0 (.t 4)),p_ 3 2 (m_ 5)]) .ret)) [(0,[.upc 0 0 1,.up 2]),(1,[.upc 0 0 1,.up 2])])
theorem vy:ci Tryz.prog 79 uR=true:=by kernel_rfl
structure bx where
 r:ah
structure xu where
 z:Int
 hl:Value
 l:List (List UInt8)
 odd:Prop
def aL (p:bx) (r:xu):Prop:=(r.l=p.r.l.tail∧(r.odd↔p.r.odd∨¬cb 1099511627776 (p.r.l.headD []) r.z)∧((∃z,cb 1099511627776 (p.r.l.headD []) z)→cb 1099511627776 (p.r.l.headD []) r.z)∧ -9223372036854775808≤r.z∧r.z≤9223372036854775807)∧bU r.l
noncomputable def bL (p:bx):IE:=([.ptr 0 0],(aO p.r),3)
noncomputable def sk (p:bx) (K:KE):Bool:=ai fun r:xu=>iP (aL p r) (K (.sy (.int 0 r.z)) (aO ({p.r with hl:=r.hl,l:=r.l,odd:=r.odd}:ah)) 3) true
def aJ (p:bx):Prop:=bU p.r.l
theorem Jo {p:bx} {K:KE} (hK:sk p K=true) (r:xu) (h:aL p r:=by dsimp only[aL]<;>(exact⟨Eb (by assumption),by assumption⟩)):K (.sy (.int 0 r.z)) (aO ({p.r with hl:=r.hl,l:=r.l,odd:=r.odd}:ah)) 3=true:=aq h (az hK r)
theorem KM (p:bx) (K:KE) (hpre:aJ p) (hK:sk p K=true):(cw 1 (cj wt) dC 600 uR (bL p).1 (bL p).2.1 (bL p).2.2 K)=true:=by
 refine Eq.trans (b:=(aH (([.ptr 0 0,.int 4 (.ofNat 1099511627776)],(aO p.r),3)) pK jv lr fun p1 r1=>K (.sy (.int 0 ((aw 0).wrap r1.z))) (aO ({p1.r with hl:=r1.hl,l:=r1.l,odd:=r1.odd}:ah)) 3)) (by kernel_rfl) ?_
 dsimp only[aJ]at hpre
 refine ay (⟨p.r,(1099511627776:Int)⟩:mh) rfl (by(try dsimp only[jv]);exact⟨by assumption,by decide⟩) fun r1 hi1=> ?_
 dsimp only[lr]at hi1
 obtain⟨hi1,hs1⟩:=hi1
 exact Jo hK ⟨(aw 0).wrap r1.z,r1.hl,r1.l,r1.odd⟩
noncomputable def uX:co:=kO (fun us M=>Jz M 14) (ck bL (dP aJ sk)) (fun _ _ _ _=>false)
theorem Bm:bS Tryz.prog 79 1 uX:=eM (cJ (f:=79) (k:=1) (aQ wq) vy (by rfl) (by rfl) KM) tb
noncomputable def sx:=bN wt 1 uX 79 []
theorem sX:aZ Tryz.prog sx:=aR Bm wq
def zW:XF:=.mk 11 .none (.aft (.seq (g_ 4 [p_ 0 4 (m_ 0),c_ 1 5 78 [.t 4],p_ 2 6 (m_ 1),p_ 3 7 (.bin 5 1 (.t 5) (.t 6))]) (.cond (.t 7) (g_ 4 [p_ 0 8 (m_ 0),p_ 1 9 (n_ 8),p_ 2 10 (f_ 1 9),bd 3 (.st 1 (.t 10) (.c (.bool true)))]) .skip)) [(0,[.upc 0 0 1]),(1,[.upc 0 0 1])])
theorem yW:ci Tryz.prog 83 zW=true:=by kernel_rfl
structure nN where
 r:ah
 t:List Nat
structure DD where
 hl:Value
 l:List (List UInt8)
 odd:Prop
def qb (p:nN) (r:DD):Prop:=(r.l=p.r.l.tail∧(r.odd↔p.r.odd∨p.r.l=[]∨¬p.r.l.headD []=p.t.map aaY))∧bU r.l
noncomputable def tB (p:nN):IE:=([.ptr 0 0,.str p.t],(aO p.r),3)
noncomputable def vW (p:nN) (K:KE):Bool:=ai fun r:DD=>iP (qb p r) (K (.tup []) (aO ({p.r with hl:=r.hl,l:=r.l,odd:=r.odd}:ah)) 3) true
def ol (p:nN):Prop:=bU p.r.l
theorem EF {p:nN} {K:KE} (hK:vW p K=true) (r:DD) (h:qb p r:=by dsimp only[qb]<;>(refine⟨?_,by assumption⟩;first|exact JY (by assumption) (by assumption)|exact GW (by assumption) (by assumption))):K (.tup []) (aO ({p.r with hl:=r.hl,l:=r.l,odd:=r.odd}:ah)) 3=true:=aq h (az hK r)
theorem OT (p:nN) (K:KE) (hpre:ol p) (hK:vW p K=true):(cw 1 (cj sx) dC 600 zW (tB p).1 (tB p).2.1 (tB p).2.2 K)=true:=by
 refine Eq.trans (b:=(aH (([.ptr 0 0],(aO p.r),3)) iu cX du fun p1 r1=>iP (¬r1.s=((p.t:List Nat).map aaY)) (K (.tup []) (aO ({p1.r with hl:=r1.hl,l:=r1.l,odd:=true=true}:ah)) 3) (K (.tup []) (aO ({p1.r with hl:=r1.hl,l:=r1.l,odd:=r1.odd}:ah)) 3))) (by kernel_rfl) ?_
 dsimp only[ol]at hpre
 refine ay (⟨p.r⟩:fL) rfl (by(try dsimp only[cX]);assumption) fun r1 hi1=> ?_
 dsimp only[du]at hi1
 obtain⟨hi1,hs1⟩:=hi1
 refine iI (fun hc2=> ?_) (fun hc2=> ?_)
 exact EF hK ⟨r1.hl,r1.l,true=true⟩
 exact EF hK ⟨r1.hl,r1.l,r1.odd⟩
noncomputable def Ag:co:=kO (fun us M=>Jz M 14) (ck tB (dP ol vW)) (fun _ _ _ _=>false)
theorem GI:bS Tryz.prog 83 1 Ag:=eM (cJ (f:=83) (k:=1) (aQ sX) yW (by rfl) (by rfl) OT) tb
noncomputable def wH:=bN sx 1 Ag 83 []
theorem wG:aZ Tryz.prog wH:=aR GI sX
def HJ:XF:=uS
theorem Jh:ci Tryz.prog 78 HJ=true:=sF
structure mo where
 r:ah
structure DB where
 s:List UInt8
 hl:Value
 l:List (List UInt8)
 odd:Prop
def lv (p:mo) (r:DB):Prop:=(r.s=p.r.l.headD []∧r.l=p.r.l.tail∧(r.odd↔p.r.odd∨p.r.l=[]))∧bU r.l
noncomputable def pO (p:mo):IE:=([.ptr 0 0],(iq p.r),3)
noncomputable def vU (p:mo) (K:KE):Bool:=ai fun r:DB=>iP (lv p r) (K (.sy (.str r.s)) (iq ({p.r with hl:=r.hl,l:=r.l,odd:=r.odd}:ah)) 3) true
def jy (p:mo):Prop:=bU p.r.l
theorem EC {p:mo} {K:KE} (hK:vU p K=true) (r:DB) (h:lv p r:=by dsimp only[lv]<;>(first|(have e:p.r.l=[]:=aaX (by omega);exact⟨by simp[e],hpre⟩)|exact⟨⟨xX (by assumption),xA _,by have e:=Iz (by assumption);simp[e]⟩,tQ hpre⟩)):K (.sy (.str r.s)) (iq ({p.r with hl:=r.hl,l:=r.l,odd:=r.odd}:ah)) 3=true:=aq h (az hK r)
theorem OR (p:mo) (K:KE) (hpre:jy p) (hK:vU p K=true):(cw 1 (cj wH) dC 600 HJ (pO p).1 (pO p).2.1 (pO p).2.2 K)=true:=by
 refine Eq.trans (b:=(iP ((p.r.l.length:Int)=(0:Int)) (K (.sy (.str aW)) (iq ({p.r with odd:=true=true}:ah)) 3) (mP (0≤(0:Int)∧(0:Int)<(p.r.l.length:Int)) (ai fun x1:(List UInt8)=>iP (p.r.l[0]?=some x1) (mP (0≤(1:Int)∧(1:Int)≤(p.r.l.length:Int)∧(p.r.l.length:Int)≤(p.r.l.length:Int)) (K (.sy (.str x1)) (iq ({p.r with hl:=Hp p.r.hl 1 1 p.r.l.length,l:=(p.r.l.drop 1).take (p.r.l.length - 1)}:ah)) 3)) true)))) (by kernel_rfl) ?_
 dsimp only[jy]at hpre
 have hlen:=hpre.1
 refine iI (fun hc1=> ?_) (fun hc1=> ?_)
 exact EC hK ⟨aW,p.r.hl,p.r.l,true=true⟩
 refine bC ?_
 refine am (fun x1=> ?_)
 refine iI (fun hi2=> ?_) (fun _=>rfl)
 refine mI (by(first|omega|(simp[dW]<;>omega))) ?_
 exact EC hK ⟨x1,Hp p.r.hl 1 1 p.r.l.length,(p.r.l.drop 1).take (p.r.l.length - 1),p.r.odd⟩
noncomputable def Ad:co:=kO (fun us M=>zp M) (ck pO (dP jy vU)) Ae
theorem GF:bS Tryz.prog 78 1 Ad:=eM (cJ (f:=78) (k:=1) (aQ wG) Jh (by rfl) (by rfl) OR) GG
noncomputable def wz:=bN wH 1 Ad 78 []
theorem qv:aZ Tryz.prog wz:=aR GF wG
def Hu:XF:=uQ
theorem yU:ci Tryz.prog 80 Hu=true:=sE
structure kL where
 r:ah
 m:Int
structure yk where
 z:Int
 hl:Value
 l:List (List UInt8)
 odd:Prop
def jH (p:kL) (r:yk):Prop:=(r.l=p.r.l.tail∧(r.odd↔p.r.odd∨¬cb p.m (p.r.l.headD []) r.z)∧((∃z,cb p.m (p.r.l.headD []) z)→cb p.m (p.r.l.headD []) r.z)∧0≤r.z∧r.z≤18446744073709551615)∧bU r.l
noncomputable def ir (p:kL):IE:=([.ptr 0 0,.int 4 p.m],(iq p.r),3)
noncomputable def rk (p:kL) (K:KE):Bool:=ai fun r:yk=>iP (jH p r) (K (.sy (.int 4 r.z)) (iq ({p.r with hl:=r.hl,l:=r.l,odd:=r.odd}:ah)) 3) true
def gA (p:kL):Prop:=bU p.r.l∧p.m≤18446744073709551615
theorem rJ {p:kL} {K:KE} (hK:rk p K=true) (r:yk) (h:jH p r:=by dsimp only[jH]<;>(refine⟨?_,by assumption⟩;first|exact Ck q3 (by assumption) (by assumption) (by assumption) (by assumption)|exact zg q3 (by assumption) (by assumption) (by first|exact .inl (by assumption)|exact .inr (by assumption))|exact zf q3 (by assumption) (by assumption) (by assumption))):K (.sy (.int 4 r.z)) (iq ({p.r with hl:=r.hl,l:=r.l,odd:=r.odd}:ah)) 3=true:=aq h (az hK r)
theorem FB (p:kL) (K:KE) (hpre:gA p) (hK:rk p K=true):(cw 1 (cj wz) dC 600 Hu (ir p).1 (ir p).2.1 (ir p).2.2 K)=true:=by
 refine Eq.trans (b:=(aH (([.ptr 0 0],(iq p.r),3)) pO jy lv fun p1 r1=>mP (r1.s.length≤1000000) (ac (ai fun u1:Nat=>iP (Lib.parseMag r1.s= .ok u1∧u1≤18446744073709551615) (iP ((p.m:Int)<(u1:Int)) (K (.sy (.int 4 (u1:Int))) (iq ({p1.r with hl:=r1.hl,l:=r1.l,odd:=true=true}:ah)) 3) (mP (bb 4 (u1:Int)) (iP (¬(Lib.itoa (u1:Int))=r1.s) (K (.sy (.int 4 (u1:Int))) (iq ({p1.r with hl:=r1.hl,l:=r1.l,odd:=true=true}:ah)) 3) (K (.sy (.int 4 (u1:Int))) (iq ({p1.r with hl:=r1.hl,l:=r1.l,odd:=r1.odd}:ah)) 3)))) true) (iP (∀u,¬Lib.parseMag r1.s= .ok u) (ai fun z1:Int=>iP (0≤z1∧z1≤18446744073709551615) (ai fun e1:Nat=>K (.sy (.int 4 z1)) (iq ({p1.r with hl:=r1.hl,l:=r1.l,odd:=true=true}:ah)) 3) true) true)))) (by kernel_rfl) ?_
 dsimp only[gA]at hpre
 obtain⟨q1,q3⟩:=hpre
 have q2:=q1.2
 refine ay (⟨p.r⟩:mo) rfl (by(try dsimp only[jy]);assumption) fun r1 hi1=> ?_
 dsimp only[lv]at hi1
 obtain⟨hi1,hs1⟩:=hi1
 refine mI (by exact Cj (by assumption) q2) ?_
 refine aE ?_ ?_
 refine am (fun u1=> ?_)
 refine iI (fun hi2=> ?_) (fun _=>rfl)
 refine iI (fun hc3=> ?_) (fun hc3=> ?_)
 exact rJ hK ⟨(u1:Int),r1.hl,r1.l,true=true⟩
 refine fe ?_
 refine iI (fun hc4=> ?_) (fun hc4=> ?_)
 exact rJ hK ⟨(u1:Int),r1.hl,r1.l,true=true⟩
 exact rJ hK ⟨(u1:Int),r1.hl,r1.l,r1.odd⟩
 refine iI (fun hi5=> ?_) (fun _=>rfl)
 refine am (fun z1=> ?_)
 refine iI (fun hi6=> ?_) (fun _=>rfl)
 refine am (fun e1=> ?_)
 exact rJ hK ⟨z1,r1.hl,r1.l,true=true⟩
noncomputable def Ab:co:=kO (fun us M=>zp M) (ck ir (dP gA rk)) Ac
theorem GD:bS Tryz.prog 80 1 Ab:=eM (cJ (f:=80) (k:=1) (aQ qv) yU (by rfl) (by rfl) FB) GE
noncomputable def wo:=bN wz 1 Ab 80 []
theorem qm:aZ Tryz.prog wo:=aR GD qv
theorem PI:bS Tryz.prog 80 1 (ck ir (dP gA rk)):=(cJ (f:=80) (k:=1) (aQ qv) yU (by rfl) (by rfl) FB)
def BH:XF:=uR
theorem vx:ci Tryz.prog 79 BH=true:=vy
structure ef where
 r:ah
structure rS where
 z:Int
 hl:Value
 l:List (List UInt8)
 odd:Prop
def cN (p:ef) (r:rS):Prop:=(r.l=p.r.l.tail∧(r.odd↔p.r.odd∨¬cb 1099511627776 (p.r.l.headD []) r.z)∧((∃z,cb 1099511627776 (p.r.l.headD []) z)→cb 1099511627776 (p.r.l.headD []) r.z)∧ -9223372036854775808≤r.z∧r.z≤9223372036854775807)∧bU r.l
noncomputable def dx (p:ef):IE:=([.ptr 0 0],(iq p.r),3)
noncomputable def nY (p:ef) (K:KE):Bool:=ai fun r:rS=>iP (cN p r) (K (.sy (.int 0 r.z)) (iq ({p.r with hl:=r.hl,l:=r.l,odd:=r.odd}:ah)) 3) true
def cu (p:ef):Prop:=bU p.r.l
theorem Jn {p:ef} {K:KE} (hK:nY p K=true) (r:rS) (h:cN p r:=by dsimp only[cN]<;>(exact⟨Eb (by assumption),by assumption⟩)):K (.sy (.int 0 r.z)) (iq ({p.r with hl:=r.hl,l:=r.l,odd:=r.odd}:ah)) 3=true:=aq h (az hK r)
theorem AO (p:ef) (K:KE) (hpre:cu p) (hK:nY p K=true):(cw 1 (cj wo) dC 600 BH (dx p).1 (dx p).2.1 (dx p).2.2 K)=true:=by
 refine Eq.trans (b:=(aH (([.ptr 0 0,.int 4 (.ofNat 1099511627776)],(iq p.r),3)) ir gA jH fun p1 r1=>K (.sy (.int 0 ((aw 0).wrap r1.z))) (iq ({p1.r with hl:=r1.hl,l:=r1.l,odd:=r1.odd}:ah)) 3)) (by kernel_rfl) ?_
 dsimp only[cu]at hpre
 refine ay (⟨p.r,(1099511627776:Int)⟩:kL) rfl (by(try dsimp only[gA]);exact⟨by assumption,by decide⟩) fun r1 hi1=> ?_
 dsimp only[jH]at hi1
 obtain⟨hi1,hs1⟩:=hi1
 exact Jn hK ⟨(aw 0).wrap r1.z,r1.hl,r1.l,r1.odd⟩
noncomputable def uW:co:=kO (fun us M=>zp M) (ck dx (dP cu nY)) uX
theorem Bl:bS Tryz.prog 79 1 uW:=eM (cJ (f:=79) (k:=1) (aQ qm) vx (by rfl) (by rfl) AO) Bm
noncomputable def sw:=bN wo 1 uW 79 []
theorem nC:aZ Tryz.prog sw:=aR Bl qm
theorem Lr:bS Tryz.prog 79 1 (ck dx (dP cu nY)):=(cJ (f:=79) (k:=1) (aQ qm) vx (by rfl) (by rfl) AO)
def HK:XF:=zW
theorem yV:ci Tryz.prog 83 HK=true:=yW
structure fm where
 r:ah
 t:List Nat
structure ym where
 hl:Value
 l:List (List UInt8)
 odd:Prop
def dj (p:fm) (r:ym):Prop:=(r.l=p.r.l.tail∧(r.odd↔p.r.odd∨p.r.l=[]∨¬p.r.l.headD []=p.t.map aaY))∧bU r.l
noncomputable def eG (p:fm):IE:=([.ptr 0 0,.str p.t],(iq p.r),3)
noncomputable def rl (p:fm) (K:KE):Bool:=ai fun r:ym=>iP (dj p r) (K (.tup []) (iq ({p.r with hl:=r.hl,l:=r.l,odd:=r.odd}:ah)) 3) true
def cE (p:fm):Prop:=bU p.r.l
theorem EE {p:fm} {K:KE} (hK:rl p K=true) (r:ym) (h:dj p r:=by dsimp only[dj]<;>(refine⟨?_,by assumption⟩;first|exact JY (by assumption) (by assumption)|exact GW (by assumption) (by assumption))):K (.tup []) (iq ({p.r with hl:=r.hl,l:=r.l,odd:=r.odd}:ah)) 3=true:=aq h (az hK r)
theorem FF (p:fm) (K:KE) (hpre:cE p) (hK:rl p K=true):(cw 1 (cj sw) dC 600 HK (eG p).1 (eG p).2.1 (eG p).2.2 K)=true:=by
 refine Eq.trans (b:=(aH (([.ptr 0 0],(iq p.r),3)) pO jy lv fun p1 r1=>iP (¬r1.s=((p.t:List Nat).map aaY)) (K (.tup []) (iq ({p1.r with hl:=r1.hl,l:=r1.l,odd:=true=true}:ah)) 3) (K (.tup []) (iq ({p1.r with hl:=r1.hl,l:=r1.l,odd:=r1.odd}:ah)) 3))) (by kernel_rfl) ?_
 dsimp only[cE]at hpre
 refine ay (⟨p.r⟩:mo) rfl (by(try dsimp only[jy]);assumption) fun r1 hi1=> ?_
 dsimp only[lv]at hi1
 obtain⟨hi1,hs1⟩:=hi1
 refine iI (fun hc2=> ?_) (fun hc2=> ?_)
 exact EE hK ⟨r1.hl,r1.l,true=true⟩
 exact EE hK ⟨r1.hl,r1.l,r1.odd⟩
noncomputable def Af:co:=kO (fun us M=>zp M) (ck eG (dP cE rl)) Ag
theorem GH:bS Tryz.prog 83 1 Af:=eM (cJ (f:=83) (k:=1) (aQ nC) yV (by rfl) (by rfl) FF) GI
noncomputable def wF:=bN sw 1 Af 83 []
theorem wE:aZ Tryz.prog wF:=aR GH nC
theorem PJ:bS Tryz.prog 83 1 (ck eG (dP cE rl)):=(cJ (f:=83) (k:=1) (aQ nC) yV (by rfl) (by rfl) FF)
def HI:XF:=uS
theorem Jg:ci Tryz.prog 78 HI=true:=sF
structure fk where
 r:ZS
structure DA where
 s:List UInt8
 hl:Value
 l:List (List UInt8)
 odd:Prop
def da (p:fk) (r:DA):Prop:=(r.s=p.r.l.headD []∧r.l=p.r.l.tail∧(r.odd↔p.r.odd∨p.r.l=[]))∧bU r.l
noncomputable def gw (p:fk):IE:=([.ptr 0 0],(.node .leaf (some (.blk false 58 2 [[.sy (.imm p.r.hl 1 (List UInt8) p.r.l aG),.sy (.bool p.r.odd)]])) .leaf),1)
noncomputable def vT (p:fk) (K:KE):Bool:=ai fun r:DA=>iP (da p r) (K (.sy (.str r.s)) (.node .leaf (some (.blk false 58 2 [[.sy (.imm r.hl 1 (List UInt8) r.l aG),.sy (.bool r.odd)]])) .leaf) 1) true
def cD (p:fk):Prop:=bU p.r.l
theorem EB {p:fk} {K:KE} (hK:vT p K=true) (r:DA) (h:da p r:=by dsimp only[da]<;>(first|(have e:p.r.l=[]:=aaX (by omega);exact⟨by simp[e],hpre⟩)|exact⟨⟨xX (by assumption),xA _,by have e:=Iz (by assumption);simp[e]⟩,tQ hpre⟩)):K (.sy (.str r.s)) (.node .leaf (some (.blk false 58 2 [[.sy (.imm r.hl 1 (List UInt8) r.l aG),.sy (.bool r.odd)]])) .leaf) 1=true:=aq h (az hK r)
theorem OQ (p:fk) (K:KE) (hpre:cD p) (hK:vT p K=true):(cw 1 (cj wF) dC 600 HI (gw p).1 (gw p).2.1 (gw p).2.2 K)=true:=by
 refine Eq.trans (b:=(iP ((p.r.l.length:Int)=(0:Int)) (K (.sy (.str aW)) (.node .leaf (some (.blk false 58 2 [[.sy (.imm p.r.hl 1 (List UInt8) p.r.l aG),.sy (.bool (true=true))]])) .leaf) 1) (mP (0≤(0:Int)∧(0:Int)<(p.r.l.length:Int)) (ai fun x1:(List UInt8)=>iP (p.r.l[0]?=some x1) (mP (0≤(1:Int)∧(1:Int)≤(p.r.l.length:Int)∧(p.r.l.length:Int)≤(p.r.l.length:Int)) (K (.sy (.str x1)) (.node .leaf (some (.blk false 58 2 [[.sy (.imm (Hp p.r.hl 1 1 p.r.l.length) 1 (List UInt8) ((p.r.l.drop 1).take (p.r.l.length - 1)) aG),.sy (.bool p.r.odd)]])) .leaf) 1)) true)))) (by kernel_rfl) ?_
 dsimp only[cD]at hpre
 have hlen:=hpre.1
 refine iI (fun hc1=> ?_) (fun hc1=> ?_)
 exact EB hK ⟨aW,p.r.hl,p.r.l,true=true⟩
 refine bC ?_
 refine am (fun x1=> ?_)
 refine iI (fun hi2=> ?_) (fun _=>rfl)
 refine mI (by(first|omega|(simp[dW]<;>omega))) ?_
 exact EB hK ⟨x1,Hp p.r.hl 1 1 p.r.l.length,(p.r.l.drop 1).take (p.r.l.length - 1),p.r.odd⟩
noncomputable def Ie:co:=kO (fun us M=>Jz M 2) (ck gw (dP cD vT)) Ad
theorem Qa:bS Tryz.prog 78 1 Ie:=eM (cJ (f:=78) (k:=1) (aQ wE) Jg (by rfl) (by rfl) OQ) GF
noncomputable def wy:=bN wF 1 Ie 78 []
theorem wx:aZ Tryz.prog wy:=aR Qa wE
def Ht:XF:=uQ
theorem Jb:ci Tryz.prog 80 Ht=true:=sE
structure kK where
 r:ZS
 m:Int
structure Dv where
 z:Int
 hl:Value
 l:List (List UInt8)
 odd:Prop
def iJ (p:kK) (r:Dv):Prop:=(r.l=p.r.l.tail∧(r.odd↔p.r.odd∨¬cb p.m (p.r.l.headD []) r.z)∧((∃z,cb p.m (p.r.l.headD []) z)→cb p.m (p.r.l.headD []) r.z)∧0≤r.z∧r.z≤18446744073709551615)∧bU r.l
noncomputable def nJ (p:kK):IE:=([.ptr 0 0,.int 4 p.m],(.node .leaf (some (.blk false 58 2 [[.sy (.imm p.r.hl 1 (List UInt8) p.r.l aG),.sy (.bool p.r.odd)]])) .leaf),1)
noncomputable def vN (p:kK) (K:KE):Bool:=ai fun r:Dv=>iP (iJ p r) (K (.sy (.int 4 r.z)) (.node .leaf (some (.blk false 58 2 [[.sy (.imm r.hl 1 (List UInt8) r.l aG),.sy (.bool r.odd)]])) .leaf) 1) true
def gz (p:kK):Prop:=bU p.r.l∧p.m≤18446744073709551615
theorem rI {p:kK} {K:KE} (hK:vN p K=true) (r:Dv) (h:iJ p r:=by dsimp only[iJ]<;>(refine⟨?_,by assumption⟩;first|exact Ck q3 (by assumption) (by assumption) (by assumption) (by assumption)|exact zg q3 (by assumption) (by assumption) (by first|exact .inl (by assumption)|exact .inr (by assumption))|exact zf q3 (by assumption) (by assumption) (by assumption))):K (.sy (.int 4 r.z)) (.node .leaf (some (.blk false 58 2 [[.sy (.imm r.hl 1 (List UInt8) r.l aG),.sy (.bool r.odd)]])) .leaf) 1=true:=aq h (az hK r)
theorem OK (p:kK) (K:KE) (hpre:gz p) (hK:vN p K=true):(cw 1 (cj wy) dC 600 Ht (nJ p).1 (nJ p).2.1 (nJ p).2.2 K)=true:=by
 refine Eq.trans (b:=(aH (([.ptr 0 0],(.node .leaf (some (.blk false 58 2 [[.sy (.imm p.r.hl 1 (List UInt8) p.r.l aG),.sy (.bool p.r.odd)]])) .leaf),1)) gw cD da fun p1 r1=>mP (r1.s.length≤1000000) (ac (ai fun u1:Nat=>iP (Lib.parseMag r1.s= .ok u1∧u1≤18446744073709551615) (iP ((p.m:Int)<(u1:Int)) (K (.sy (.int 4 (u1:Int))) (.node .leaf (some (.blk false 58 2 [[.sy (.imm r1.hl 1 (List UInt8) r1.l aG),.sy (.bool (true=true))]])) .leaf) 1) (mP (bb 4 (u1:Int)) (iP (¬(Lib.itoa (u1:Int))=r1.s) (K (.sy (.int 4 (u1:Int))) (.node .leaf (some (.blk false 58 2 [[.sy (.imm r1.hl 1 (List UInt8) r1.l aG),.sy (.bool (true=true))]])) .leaf) 1) (K (.sy (.int 4 (u1:Int))) (.node .leaf (some (.blk false 58 2 [[.sy (.imm r1.hl 1 (List UInt8) r1.l aG),.sy (.bool r1.odd)]])) .leaf) 1)))) true) (iP (∀u,¬Lib.parseMag r1.s= .ok u) (ai fun z1:Int=>iP (0≤z1∧z1≤18446744073709551615) (ai fun e1:Nat=>K (.sy (.int 4 z1)) (.node .leaf (some (.blk false 58 2 [[.sy (.imm r1.hl 1 (List UInt8) r1.l aG),.sy (.bool (true=true))]])) .leaf) 1) true) true)))) (by kernel_rfl) ?_
 dsimp only[gz]at hpre
 obtain⟨q1,q3⟩:=hpre
 have q2:=q1.2
 refine ay (⟨p.r⟩:fk) rfl (by(try dsimp only[cD]);assumption) fun r1 hi1=> ?_
 dsimp only[da]at hi1
 obtain⟨hi1,hs1⟩:=hi1
 refine mI (by exact Cj (by assumption) q2) ?_
 refine aE ?_ ?_
 refine am (fun u1=> ?_)
 refine iI (fun hi2=> ?_) (fun _=>rfl)
 refine iI (fun hc3=> ?_) (fun hc3=> ?_)
 exact rI hK ⟨(u1:Int),r1.hl,r1.l,true=true⟩
 refine fe ?_
 refine iI (fun hc4=> ?_) (fun hc4=> ?_)
 exact rI hK ⟨(u1:Int),r1.hl,r1.l,true=true⟩
 exact rI hK ⟨(u1:Int),r1.hl,r1.l,r1.odd⟩
 refine iI (fun hi5=> ?_) (fun _=>rfl)
 refine am (fun z1=> ?_)
 refine iI (fun hi6=> ?_) (fun _=>rfl)
 refine am (fun e1=> ?_)
 exact rI hK ⟨z1,r1.hl,r1.l,true=true⟩
noncomputable def Aa:co:=kO (fun us M=>Jz M 2) (ck nJ (dP gz vN)) Ab
theorem GC:bS Tryz.prog 80 1 Aa:=eM (cJ (f:=80) (k:=1) (aQ wx) Jb (by rfl) (by rfl) OK) GD
noncomputable def Ec:=bN wy 1 Aa 80 []
theorem GK:aZ Tryz.prog Ec:=aR GC wx
noncomputable def Ib:co:=fun us M nx K=>aN fun p:fm=>mP ((us,M,nx)=eG p) (mP (cE p) (ai fun r:ym=>iP (dj p r) (K (.tup []) (iq ({p.r with hl:=r.hl,l:=r.l,odd:=r.odd,set:=(Qw M)}:ah)) 3) true))
theorem PU:bS Tryz.prog 83 1 Ib:=by
 intro us xs E ρ G F M nx w K R h1 h2 h3 hk h5
 refine PJ us xs E ρ G F M nx w K R h1 h2 h3 ?_ h5
 obtain⟨p,hk1⟩:=bR hk
 obtain⟨e,hk2⟩:=aa hk1
 obtain⟨hp,hk3⟩:=aa hk2
 have e1:us=(eG p).1:=congrArg Prod.fst e
 have e2:M=(eG p).2.1:=congrArg (fun x=>x.2.1) e
 have e3:nx=(eG p).2.2:=congrArg (fun x=>x.2.2) e
 subst e1;subst e2;subst e3
 exact bj p (bl rfl (bl hp hk3))
noncomputable def EK:co:=kO (fun us M=>zp M) Ib Af
theorem NI:bS Tryz.prog 83 1 EK:=eM PU GH
noncomputable def Br:=bN Ec 1 EK 83 []
theorem ER:aZ Tryz.prog Br:=aR NI GK
noncomputable def BN:co:=fun us M nx K=>aN fun p:ef=>mP ((us,M,nx)=dx p) (mP (cu p) (ai fun r:rS=>iP (cN p r) (K (.sy (.int 0 r.z)) (iq ({p.r with hl:=r.hl,l:=r.l,odd:=r.odd,set:=(Qw M)}:ah)) 3) true))
theorem LJ:bS Tryz.prog 79 1 BN:=by
 intro us xs E ρ G F M nx w K R h1 h2 h3 hk h5
 refine Lr us xs E ρ G F M nx w K R h1 h2 h3 ?_ h5
 obtain⟨p,hk1⟩:=bR hk
 obtain⟨e,hk2⟩:=aa hk1
 obtain⟨hp,hk3⟩:=aa hk2
 have e1:us=(dx p).1:=congrArg Prod.fst e
 have e2:M=(dx p).2.1:=congrArg (fun x=>x.2.1) e
 have e3:nx=(dx p).2.2:=congrArg (fun x=>x.2.2) e
 subst e1;subst e2;subst e3
 exact bj p (bl rfl (bl hp hk3))
noncomputable def yY:co:=kO (fun us M=>zp M) BN uW
theorem IW:bS Tryz.prog 79 1 yY:=eM LJ Bl
noncomputable def ww:=bN Br 1 yY 79 []
theorem Bo:aZ Tryz.prog ww:=aR IW ER
noncomputable def Ia:co:=fun us M nx K=>aN fun p:kL=>mP ((us,M,nx)=ir p) (mP (gA p) (ai fun r:yk=>iP (jH p r) (K (.sy (.int 4 r.z)) (iq ({p.r with hl:=r.hl,l:=r.l,odd:=r.odd,set:=(Qw M)}:ah)) 3) true))
theorem PT:bS Tryz.prog 80 1 Ia:=by
 intro us xs E ρ G F M nx w K R h1 h2 h3 hk h5
 refine PI us xs E ρ G F M nx w K R h1 h2 h3 ?_ h5
 obtain⟨p,hk1⟩:=bR hk
 obtain⟨e,hk2⟩:=aa hk1
 obtain⟨hp,hk3⟩:=aa hk2
 have e1:us=(ir p).1:=congrArg Prod.fst e
 have e2:M=(ir p).2.1:=congrArg (fun x=>x.2.1) e
 have e3:nx=(ir p).2.2:=congrArg (fun x=>x.2.2) e
 subst e1;subst e2;subst e3
 exact bj p (bl rfl (bl hp hk3))
noncomputable def EJ:co:=kO (fun us M=>zp M) Ia Aa
theorem NH:bS Tryz.prog 80 1 EJ:=eM PT GC
noncomputable def ux:=bN ww 1 EJ 80 []
theorem vn:aZ Tryz.prog ux:=aR NH Bo
end Go.Proofs.Tryz
namespace Go.Proofs.Tryz
open Go.Proofs.YtacomabmhnodlaaGreatDoor (uJ lz tP kg oA lT nV)
open Go Go.RowKit Go.Sy
open Go.Eng hiding ai
set_option maxRecDepth 1000000
set_option linter.unusedVariables false
set_option maxHeartbeats 4000000
open Go.Txt (wds)
def Ex:XF:=.mk 55 (.ct 2 true 5 3) (.aft (.seq (g_ 2 [e_ 0 2 (.al 124 [.int 1 (.ofNat 0),.int 1 (.ofNat 0),.str [],.str [],.int 0 (.ofNat 0)]),p_ 1 3 (.mv (.c (.bool false)))]) (.seq (g_ 5 [p_ 0 7 (m_ 0),c_ 1 8 47 [.t 7,.c (.str [58])],p_ 2 9 (.bld [.nilS,.bool false] [(0,1)] [.t 8]),e_ 3 4 (.al 58 [.nilS,.bool false]),bd 4 (.st 2 (.t 4) (.t 9))]) (.seq (.pre [.upc 1 0 1] (g_ 5 [c_ 0 10 80 [.t 4,.c (.int 4 (.ofNat 3))],p_ 1 11 (.cnw 1 (.t 10)),p_ 2 12 (.bld [.int 1 (.ofNat 0),.int 1 (.ofNat 0),.str [],.str [],.int 0 (.ofNat 0)] [(0,1)] [.t 11]),e_ 3 5 (.al 124 [.int 1 (.ofNat 0),.int 1 (.ofNat 0),.str [],.str [],.int 0 (.ofNat 0)]),bd 4 (.st 5 (.t 5) (.t 12))])) (.seq (g_ 2 [c_ 0 13 78 [.t 4],p_ 1 6 (m_ 13)]) (.seq (.seq (g_ 2 [p_ 0 14 (f_ 1 5),bd 1 (.st 1 (.t 14) (.c (.int 1 (.ofNat 0))))]) (.block 2 (.loop [2,3,4,5,6,15,16,17,18,19,20,21,22,23,24,25,26,27,28,29,30,31,32,33,34,35,36,37,38,39,40,41,42,43,44,45,46,47,48,49,50,51,52,53,54] (.seq (.seq (g_ 10 [p_ 0 15 (f_ 1 5),r_ 1 16 (l_ 15),p_ 2 17 (.bin 3 0 (.t 16) (.c (.int 1 (.ofNat 4)))),p_ 3 18 (m_ 17),au 4 19 18 true (f_ 1 5),aY 5 20 18 true (l_ 19),il 6 21 18 true 91 [.t 20],au 7 22 18 true (m_ 6),au 8 23 18 true (.bin 5 1 (.t 21) (.t 22)),p_ 9 24 (.pick (.t 18) (.t 23) (.c (.bool false)))]) (.cond (.t 24) .skip (.exit 2))) (.seq (.block 3 .skip) (g_ 5 [p_ 0 25 (f_ 1 5),r_ 1 26 (l_ 25),p_ 2 27 (.bin 0 0 (.t 26) (.c (.int 1 (.ofNat 1)))),p_ 3 28 (f_ 1 5),bd 4 (.st 1 (.t 28) (.t 27))])))))) (.seq (.seq (g_ 5 [p_ 0 29 (f_ 1 5),r_ 1 30 (l_ 29),c_ 2 31 91 [.t 30],p_ 3 32 (m_ 6),p_ 4 33 (.bin 5 1 (.t 31) (.t 32))]) (.cond (.t 33) (.seq (g_ 3 [r_ 0 34 (.ld true 5 (.t 5)),bd 1 (.st 5 (.t 2) (.t 34)),p_ 2 3 (.mv (.c (.bool false)))]) .ret) .skip)) (.seq (g_ 3 [c_ 0 35 78 [.t 4],p_ 1 36 (f_ 2 5),bd 2 (.st 1 (.t 36) (.t 35))]) (.seq (.seq (g_ 2 [p_ 0 37 (f_ 1 5),r_ 1 38 (l_ 37)]) (.block 4 (.seq (g_ 2 [p_ 0 40 (.bin 3 4 (.t 38) (.c (.int 1 (.ofNat 1)))),p_ 1 39 (m_ 40)]) (.cond (.t 39) (g_ 3 [c_ 0 41 78 [.t 4],p_ 1 42 (f_ 3 5),bd 2 (.st 1 (.t 42) (.t 41))]) (.seq (.seq (g_ 2 [p_ 0 44 (.bin 3 4 (.t 38) (.c (.int 1 (.ofNat 2)))),p_ 1 43 (m_ 44)]) (.cond (.t 43) .skip (g_ 2 [p_ 0 45 (.bin 3 4 (.t 38) (.c (.int 1 (.ofNat 3)))),p_ 1 43 (m_ 45)]))) (.cond (.t 43) (g_ 4 [c_ 0 46 80 [.t 4,.c (.int 4 (.ofNat 9223372036854775807))],p_ 1 47 (.cnw 0 (.t 46)),p_ 2 48 (f_ 4 5),bd 3 (.st 1 (.t 48) (.t 47))]) .skip)))))) (.seq (.pre [.can 0 [2,4,5],.upc 2 0 0,.upc 2 0 1,.upc 2 0 2,.upc 2 0 3,.upc 2 0 4] (h_ 8 [r_ 0 49 (.ld true 5 (.t 5)),c_ 1 50 82 [.t 4],a_ 0 49 (.ld true 5 (.t 5)),p_ 2 51 (m_ 50),aY 3 52 51 true (.ld true 5 (.t 5)),il 4 53 51 true 71 [.t 52],a_ 0 49 (.ld true 5 (.t 5)),p_ 5 54 (.pick (.t 51) (.t 53) (.c (.bool false))),bd 6 (.st 5 (.t 2) (.t 49)),p_ 7 3 (m_ 54)])) .ret))))))))) [(0,[.upc 0 0 0,.upc 0 0 1,.upc 0 0 2,.upc 0 0 3,.upc 0 0 4,.up 3]),(1,[.upc 0 0 0,.upc 0 0 1,.upc 0 0 2,.upc 0 0 3,.upc 0 0 4,.up 3])])
theorem HH:ci Tryz.prog 81 Ex=true:=by kernel_rfl
structure lM where
 s:List UInt8
structure AG where
 p:aB
 q:Prop
def ow (p:lM) (r:AG):Prop:=ig p.s r.q ⟨r.p.g,r.p.k,r.p.key,r.p.val,r.p.n⟩
noncomputable def qW (p:lM):IE:=([.sy (.str p.s)],.leaf,0)
noncomputable def uk (p:lM) (K:KE):Bool:=ai fun r:AG=>iP (ow p r) (K (.tup [.agg [.sy (.int 1 r.p.g),.sy (.int 1 r.p.k),.sy (.str r.p.key),.sy (.str r.p.val),.sy (.int 0 r.p.n)],.sy (.bool r.q)]) .leaf 0) true
def mF (p:lM):Prop:=p.s.length≤100000
theorem cm {p:lM} {K:KE} (hK:uk p K=true) (r:AG) (h:ow p r:=by dsimp only[ow]<;>(first|exact Nt (by assumption) (by assumption) (by assumption) (by first|exact FK (Classical.not_not.1 (by assumption))|exact FK (by assumption)|exact FJ (Classical.not_not.1 (by assumption))|exact FJ (by assumption)|exact FI (Classical.not_not.1 (by assumption))|exact FI (by assumption)|exact FH (Classical.not_not.1 (by assumption))|exact FH (by assumption)|exact FG (Classical.not_not.1 (by assumption))|exact FG (by assumption)) (by decide) (by simp) (by first|exact yR (by assumption) (by assumption) (by assumption)|exact yQ (by assumption)|exact yP (by assumption))|exact Ns (by assumption) (by assumption) (by assumption) (by assumption) (by first|exact FK (Classical.not_not.1 (by assumption))|exact FK (by assumption)|exact FJ (Classical.not_not.1 (by assumption))|exact FJ (by assumption)|exact FI (Classical.not_not.1 (by assumption))|exact FI (by assumption)|exact FH (Classical.not_not.1 (by assumption))|exact FH (by assumption)|exact FG (Classical.not_not.1 (by assumption))|exact FG (by assumption)) (by simp) (by first|exact yR (by assumption) (by assumption) (by assumption)|exact yQ (by assumption)|exact yP (by assumption))|exact Nr (by assumption) (by assumption) (by assumption) (by assumption) (by first|exact FK (Classical.not_not.1 (by assumption))|exact FK (by assumption)|exact FJ (Classical.not_not.1 (by assumption))|exact FJ (by assumption)|exact FI (Classical.not_not.1 (by assumption))|exact FI (by assumption)|exact FH (Classical.not_not.1 (by assumption))|exact FH (by assumption)|exact FG (Classical.not_not.1 (by assumption))|exact FG (by assumption)) (by decide) (by simp) (by first|exact yR (by assumption) (by assumption) (by assumption)|exact yQ (by assumption)|exact yP (by assumption))|exact Nq (by assumption) (by assumption) (MX (by assumption) (by assumption) (by assumption) (by assumption) (by assumption))|(exfalso;contradiction))):K (.tup [.agg [.sy (.int 1 r.p.g),.sy (.int 1 r.p.k),.sy (.str r.p.key),.sy (.str r.p.val),.sy (.int 0 r.p.n)],.sy (.bool r.q)]) .leaf 0=true:=aq h (az hK r)
theorem MS (p:lM) (K:KE) (hpre:mF p) (hK:uk p K=true):(cw 0 (cj ux) dC 600 Ex (qW p).1 (qW p).2.1 (qW p).2.2 K)=true:=by
 refine Eq.trans (b:=(ac (Nat.blt 58 256) (mP (p.s.length≤1000000) (ai fun h1:Value=>aH (([.ptr 0 0,.int 4 (.ofNat 3)],(.node .leaf (some (.blk false 58 2 [[.sy (.imm h1 1 (List UInt8) (Txt.wds (aaY 58) p.s) aG),.sy (.bool (false=true))]])) .leaf),1)) nJ gz iJ fun p1 r1=>aH (([.ptr 0 0],(.node .leaf (some (.blk false 58 2 [[.sy (.imm r1.hl 1 (List UInt8) r1.l aG),.sy (.bool r1.odd)]])) .leaf),1)) gw cD da fun p2 r2=>iP (¬La=r2.s) (iP (¬FN=r2.s) (iP (¬zn=r2.s) (iP (¬vD=r2.s) (iP (¬ng=r2.s) (K (.tup [.agg [.sy (.int 1 ((aw 1).wrap r1.z)),.sy (.int 1 4),.sy (.str aW),.sy (.str aW),.sy (.int 0 0)],.sy (.bool (false=true))]) .leaf 0) (aH (([.ptr 0 0],(.node .leaf (some (.blk false 58 2 [[.sy (.imm r2.hl 1 (List UInt8) r2.l aG),.sy (.bool r2.odd)]])) .leaf),1)) gw cD da fun p3 r3=>iP (¬r3.odd) (ac (qL [qI 1 ((aw 1).wrap r1.z),qI 1 4,qS r3.s,qS aW,qI 0 0]) (iP ((r3.l.length:Int)=(0:Int)) (aN fun p4:dz=>mP (([.agg [.sy (.int 1 ((aw 1).wrap r1.z)),.sy (.int 1 4),.sy (.str r3.s),.sy (.str aW),.sy (.int 0 0)]],.leaf,0)=ia p4) (ai fun r4:iV=>iP (cL p4 r4) (ac (qL [qI 1 ((aw 1).wrap r1.z),qI 1 4,qS r3.s,qS aW,qI 0 0]) (K (.tup [.agg [.sy (.int 1 ((aw 1).wrap r1.z)),.sy (.int 1 4),.sy (.str r3.s),.sy (.str aW),.sy (.int 0 0)],.sy (.bool r4.q)]) .leaf 0)) true)) (ac (qL [qI 1 ((aw 1).wrap r1.z),qI 1 4,qS r3.s,qS aW,qI 0 0]) (K (.tup [.agg [.sy (.int 1 ((aw 1).wrap r1.z)),.sy (.int 1 4),.sy (.str r3.s),.sy (.str aW),.sy (.int 0 0)],.sy (.bool (false=true))]) .leaf 0)))) (ac (qL [qI 1 ((aw 1).wrap r1.z),qI 1 4,qS r3.s,qS aW,qI 0 0]) (ac (qL [qI 1 ((aw 1).wrap r1.z),qI 1 4,qS r3.s,qS aW,qI 0 0]) (K (.tup [.agg [.sy (.int 1 ((aw 1).wrap r1.z)),.sy (.int 1 4),.sy (.str r3.s),.sy (.str aW),.sy (.int 0 0)],.sy (.bool (false=true))]) .leaf 0))))) (iP (¬vD=r2.s) (K (.tup [.agg [.sy (.int 1 ((aw 1).wrap r1.z)),.sy (.int 1 3),.sy (.str aW),.sy (.str aW),.sy (.int 0 0)],.sy (.bool (false=true))]) .leaf 0) (aH (([.ptr 0 0],(.node .leaf (some (.blk false 58 2 [[.sy (.imm r2.hl 1 (List UInt8) r2.l aG),.sy (.bool r2.odd)]])) .leaf),1)) gw cD da fun p5 r5=>aH (([.ptr 0 0,.int 4 (.ofNat 9223372036854775807)],(.node .leaf (some (.blk false 58 2 [[.sy (.imm r5.hl 1 (List UInt8) r5.l aG),.sy (.bool r5.odd)]])) .leaf),1)) nJ gz iJ fun p6 r6=>iP (¬r6.odd) (ac (qL [qI 1 ((aw 1).wrap r1.z),qI 1 3,qS r5.s,qS aW,qI 0 ((aw 0).wrap r6.z)]) (iP ((r6.l.length:Int)=(0:Int)) (aN fun p7:dz=>mP (([.agg [.sy (.int 1 ((aw 1).wrap r1.z)),.sy (.int 1 3),.sy (.str r5.s),.sy (.str aW),.sy (.int 0 ((aw 0).wrap r6.z))]],.leaf,0)=ia p7) (ai fun r7:iV=>iP (cL p7 r7) (ac (qL [qI 1 ((aw 1).wrap r1.z),qI 1 3,qS r5.s,qS aW,qI 0 ((aw 0).wrap r6.z)]) (K (.tup [.agg [.sy (.int 1 ((aw 1).wrap r1.z)),.sy (.int 1 3),.sy (.str r5.s),.sy (.str aW),.sy (.int 0 ((aw 0).wrap r6.z))],.sy (.bool r7.q)]) .leaf 0)) true)) (ac (qL [qI 1 ((aw 1).wrap r1.z),qI 1 3,qS r5.s,qS aW,qI 0 ((aw 0).wrap r6.z)]) (K (.tup [.agg [.sy (.int 1 ((aw 1).wrap r1.z)),.sy (.int 1 3),.sy (.str r5.s),.sy (.str aW),.sy (.int 0 ((aw 0).wrap r6.z))],.sy (.bool (false=true))]) .leaf 0)))) (ac (qL [qI 1 ((aw 1).wrap r1.z),qI 1 3,qS r5.s,qS aW,qI 0 ((aw 0).wrap r6.z)]) (ac (qL [qI 1 ((aw 1).wrap r1.z),qI 1 3,qS r5.s,qS aW,qI 0 ((aw 0).wrap r6.z)]) (K (.tup [.agg [.sy (.int 1 ((aw 1).wrap r1.z)),.sy (.int 1 3),.sy (.str r5.s),.sy (.str aW),.sy (.int 0 ((aw 0).wrap r6.z))],.sy (.bool (false=true))]) .leaf 0)))))) (iP (¬zn=r2.s) (K (.tup [.agg [.sy (.int 1 ((aw 1).wrap r1.z)),.sy (.int 1 2),.sy (.str aW),.sy (.str aW),.sy (.int 0 0)],.sy (.bool (false=true))]) .leaf 0) (aH (([.ptr 0 0],(.node .leaf (some (.blk false 58 2 [[.sy (.imm r2.hl 1 (List UInt8) r2.l aG),.sy (.bool r2.odd)]])) .leaf),1)) gw cD da fun p8 r8=>aH (([.ptr 0 0,.int 4 (.ofNat 9223372036854775807)],(.node .leaf (some (.blk false 58 2 [[.sy (.imm r8.hl 1 (List UInt8) r8.l aG),.sy (.bool r8.odd)]])) .leaf),1)) nJ gz iJ fun p9 r9=>iP (¬r9.odd) (ac (qL [qI 1 ((aw 1).wrap r1.z),qI 1 2,qS r8.s,qS aW,qI 0 ((aw 0).wrap r9.z)]) (iP ((r9.l.length:Int)=(0:Int)) (aN fun p10:dz=>mP (([.agg [.sy (.int 1 ((aw 1).wrap r1.z)),.sy (.int 1 2),.sy (.str r8.s),.sy (.str aW),.sy (.int 0 ((aw 0).wrap r9.z))]],.leaf,0)=ia p10) (ai fun r10:iV=>iP (cL p10 r10) (ac (qL [qI 1 ((aw 1).wrap r1.z),qI 1 2,qS r8.s,qS aW,qI 0 ((aw 0).wrap r9.z)]) (K (.tup [.agg [.sy (.int 1 ((aw 1).wrap r1.z)),.sy (.int 1 2),.sy (.str r8.s),.sy (.str aW),.sy (.int 0 ((aw 0).wrap r9.z))],.sy (.bool r10.q)]) .leaf 0)) true)) (ac (qL [qI 1 ((aw 1).wrap r1.z),qI 1 2,qS r8.s,qS aW,qI 0 ((aw 0).wrap r9.z)]) (K (.tup [.agg [.sy (.int 1 ((aw 1).wrap r1.z)),.sy (.int 1 2),.sy (.str r8.s),.sy (.str aW),.sy (.int 0 ((aw 0).wrap r9.z))],.sy (.bool (false=true))]) .leaf 0)))) (ac (qL [qI 1 ((aw 1).wrap r1.z),qI 1 2,qS r8.s,qS aW,qI 0 ((aw 0).wrap r9.z)]) (ac (qL [qI 1 ((aw 1).wrap r1.z),qI 1 2,qS r8.s,qS aW,qI 0 ((aw 0).wrap r9.z)]) (K (.tup [.agg [.sy (.int 1 ((aw 1).wrap r1.z)),.sy (.int 1 2),.sy (.str r8.s),.sy (.str aW),.sy (.int 0 ((aw 0).wrap r9.z))],.sy (.bool (false=true))]) .leaf 0)))))) (iP (¬FN=r2.s) (K (.tup [.agg [.sy (.int 1 ((aw 1).wrap r1.z)),.sy (.int 1 1),.sy (.str aW),.sy (.str aW),.sy (.int 0 0)],.sy (.bool (false=true))]) .leaf 0) (aH (([.ptr 0 0],(.node .leaf (some (.blk false 58 2 [[.sy (.imm r2.hl 1 (List UInt8) r2.l aG),.sy (.bool r2.odd)]])) .leaf),1)) gw cD da fun p11 r11=>aH (([.ptr 0 0],(.node .leaf (some (.blk false 58 2 [[.sy (.imm r11.hl 1 (List UInt8) r11.l aG),.sy (.bool r11.odd)]])) .leaf),1)) gw cD da fun p12 r12=>iP (¬r12.odd) (ac (qL [qI 1 ((aw 1).wrap r1.z),qI 1 1,qS r11.s,qS r12.s,qI 0 0]) (iP ((r12.l.length:Int)=(0:Int)) (aN fun p13:dz=>mP (([.agg [.sy (.int 1 ((aw 1).wrap r1.z)),.sy (.int 1 1),.sy (.str r11.s),.sy (.str r12.s),.sy (.int 0 0)]],.leaf,0)=ia p13) (ai fun r13:iV=>iP (cL p13 r13) (ac (qL [qI 1 ((aw 1).wrap r1.z),qI 1 1,qS r11.s,qS r12.s,qI 0 0]) (K (.tup [.agg [.sy (.int 1 ((aw 1).wrap r1.z)),.sy (.int 1 1),.sy (.str r11.s),.sy (.str r12.s),.sy (.int 0 0)],.sy (.bool r13.q)]) .leaf 0)) true)) (ac (qL [qI 1 ((aw 1).wrap r1.z),qI 1 1,qS r11.s,qS r12.s,qI 0 0]) (K (.tup [.agg [.sy (.int 1 ((aw 1).wrap r1.z)),.sy (.int 1 1),.sy (.str r11.s),.sy (.str r12.s),.sy (.int 0 0)],.sy (.bool (false=true))]) .leaf 0)))) (ac (qL [qI 1 ((aw 1).wrap r1.z),qI 1 1,qS r11.s,qS r12.s,qI 0 0]) (ac (qL [qI 1 ((aw 1).wrap r1.z),qI 1 1,qS r11.s,qS r12.s,qI 0 0]) (K (.tup [.agg [.sy (.int 1 ((aw 1).wrap r1.z)),.sy (.int 1 1),.sy (.str r11.s),.sy (.str r12.s),.sy (.int 0 0)],.sy (.bool (false=true))]) .leaf 0)))))) (iP (¬La=r2.s) (K (.tup [.agg [.sy (.int 1 ((aw 1).wrap r1.z)),.sy (.int 1 0),.sy (.str aW),.sy (.str aW),.sy (.int 0 0)],.sy (.bool (false=true))]) .leaf 0) (aH (([.ptr 0 0],(.node .leaf (some (.blk false 58 2 [[.sy (.imm r2.hl 1 (List UInt8) r2.l aG),.sy (.bool r2.odd)]])) .leaf),1)) gw cD da fun p14 r14=>iP (¬r14.odd) (ac (qL [qI 1 ((aw 1).wrap r1.z),qI 1 0,qS r14.s,qS aW,qI 0 0]) (iP ((r14.l.length:Int)=(0:Int)) (aN fun p15:dz=>mP (([.agg [.sy (.int 1 ((aw 1).wrap r1.z)),.sy (.int 1 0),.sy (.str r14.s),.sy (.str aW),.sy (.int 0 0)]],.leaf,0)=ia p15) (ai fun r15:iV=>iP (cL p15 r15) (ac (qL [qI 1 ((aw 1).wrap r1.z),qI 1 0,qS r14.s,qS aW,qI 0 0]) (K (.tup [.agg [.sy (.int 1 ((aw 1).wrap r1.z)),.sy (.int 1 0),.sy (.str r14.s),.sy (.str aW),.sy (.int 0 0)],.sy (.bool r15.q)]) .leaf 0)) true)) (ac (qL [qI 1 ((aw 1).wrap r1.z),qI 1 0,qS r14.s,qS aW,qI 0 0]) (K (.tup [.agg [.sy (.int 1 ((aw 1).wrap r1.z)),.sy (.int 1 0),.sy (.str r14.s),.sy (.str aW),.sy (.int 0 0)],.sy (.bool (false=true))]) .leaf 0)))) (ac (qL [qI 1 ((aw 1).wrap r1.z),qI 1 0,qS r14.s,qS aW,qI 0 0]) (ac (qL [qI 1 ((aw 1).wrap r1.z),qI 1 0,qS r14.s,qS aW,qI 0 0]) (K (.tup [.agg [.sy (.int 1 ((aw 1).wrap r1.z)),.sy (.int 1 0),.sy (.str r14.s),.sy (.str aW),.sy (.int 0 0)],.sy (.bool (false=true))]) .leaf 0))))))))) (by kernel_rfl) ?_
 dsimp only[mF]at hpre
 have hw:bU (Txt.wds (aaY 58) p.s):=DH hpre
 refine aE (rfl) ?_
 refine ed ?_
 refine am (fun h1=> ?_)
 refine ay (⟨⟨h1,(Txt.wds (aaY 58) p.s),false=true⟩,(3:Int)⟩:kK) rfl (by(try dsimp only[gz]);exact⟨by assumption,by decide⟩) fun r1 hi1=> ?_
 dsimp only[iJ]at hi1
 obtain⟨hi1,hs1⟩:=hi1
 refine ay (⟨⟨r1.hl,r1.l,r1.odd⟩⟩:fk) rfl (by(try dsimp only[cD]);assumption) fun r2 hi2=> ?_
 dsimp only[da]at hi2
 obtain⟨hi2,hs2⟩:=hi2
 refine iI (fun hc3=> ?_) (fun hc3=> ?_)
 refine iI (fun hc4=> ?_) (fun hc4=> ?_)
 refine iI (fun hc5=> ?_) (fun hc5=> ?_)
 refine iI (fun hc6=> ?_) (fun hc6=> ?_)
 refine iI (fun hc7=> ?_) (fun hc7=> ?_)
 exact cm hK ⟨⟨(aw 1).wrap r1.z,(4:Int),aW,aW,(0:Int)⟩,false=true⟩
 refine ay (⟨⟨r2.hl,r2.l,r2.odd⟩⟩:fk) rfl (by(try dsimp only[cD]);assumption) fun r3 hi8=> ?_
 dsimp only[da]at hi8
 obtain⟨hi8,hs8⟩:=hi8
 refine iI (fun hc9=> ?_) (fun hc9=> ?_)
 refine aE (by simp[qL,qI,qS,qY,aC]) ?_
 refine iI (fun hc10=> ?_) (fun hc10=> ?_)
 refine cU (⟨⟨(aw 1).wrap r1.z,(4:Int),r3.s,aW,(0:Int)⟩⟩:dz) rfl fun r4 hi11=> ?_
 dsimp only[cL]at hi11
 refine aE (by simp[qL,qI,qS,qY,aC]) ?_
 exact cm hK ⟨⟨(aw 1).wrap r1.z,(4:Int),r3.s,aW,(0:Int)⟩,r4.q⟩
 refine aE (by simp[qL,qI,qS,qY,aC]) ?_
 exact cm hK ⟨⟨(aw 1).wrap r1.z,(4:Int),r3.s,aW,(0:Int)⟩,false=true⟩
 refine aE (by simp[qL,qI,qS,qY,aC]) ?_
 refine aE (by simp[qL,qI,qS,qY,aC]) ?_
 exact cm hK ⟨⟨(aw 1).wrap r1.z,(4:Int),r3.s,aW,(0:Int)⟩,false=true⟩
 refine iI (fun hc12=> ?_) (fun hc12=> ?_)
 exact cm hK ⟨⟨(aw 1).wrap r1.z,(3:Int),aW,aW,(0:Int)⟩,false=true⟩
 refine ay (⟨⟨r2.hl,r2.l,r2.odd⟩⟩:fk) rfl (by(try dsimp only[cD]);assumption) fun r5 hi13=> ?_
 dsimp only[da]at hi13
 obtain⟨hi13,hs13⟩:=hi13
 refine ay (⟨⟨r5.hl,r5.l,r5.odd⟩,(9223372036854775807:Int)⟩:kK) rfl (by(try dsimp only[gz]);exact⟨by assumption,by decide⟩) fun r6 hi14=> ?_
 dsimp only[iJ]at hi14
 obtain⟨hi14,hs14⟩:=hi14
 refine iI (fun hc15=> ?_) (fun hc15=> ?_)
 refine aE (by simp[qL,qI,qS,qY,aC]) ?_
 refine iI (fun hc16=> ?_) (fun hc16=> ?_)
 refine cU (⟨⟨(aw 1).wrap r1.z,(3:Int),r5.s,aW,(aw 0).wrap r6.z⟩⟩:dz) rfl fun r7 hi17=> ?_
 dsimp only[cL]at hi17
 refine aE (by simp[qL,qI,qS,qY,aC]) ?_
 exact cm hK ⟨⟨(aw 1).wrap r1.z,(3:Int),r5.s,aW,(aw 0).wrap r6.z⟩,r7.q⟩
 refine aE (by simp[qL,qI,qS,qY,aC]) ?_
 exact cm hK ⟨⟨(aw 1).wrap r1.z,(3:Int),r5.s,aW,(aw 0).wrap r6.z⟩,false=true⟩
 refine aE (by simp[qL,qI,qS,qY,aC]) ?_
 refine aE (by simp[qL,qI,qS,qY,aC]) ?_
 exact cm hK ⟨⟨(aw 1).wrap r1.z,(3:Int),r5.s,aW,(aw 0).wrap r6.z⟩,false=true⟩
 refine iI (fun hc18=> ?_) (fun hc18=> ?_)
 exact cm hK ⟨⟨(aw 1).wrap r1.z,(2:Int),aW,aW,(0:Int)⟩,false=true⟩
 refine ay (⟨⟨r2.hl,r2.l,r2.odd⟩⟩:fk) rfl (by(try dsimp only[cD]);assumption) fun r8 hi19=> ?_
 dsimp only[da]at hi19
 obtain⟨hi19,hs19⟩:=hi19
 refine ay (⟨⟨r8.hl,r8.l,r8.odd⟩,(9223372036854775807:Int)⟩:kK) rfl (by(try dsimp only[gz]);exact⟨by assumption,by decide⟩) fun r9 hi20=> ?_
 dsimp only[iJ]at hi20
 obtain⟨hi20,hs20⟩:=hi20
 refine iI (fun hc21=> ?_) (fun hc21=> ?_)
 refine aE (by simp[qL,qI,qS,qY,aC]) ?_
 refine iI (fun hc22=> ?_) (fun hc22=> ?_)
 refine cU (⟨⟨(aw 1).wrap r1.z,(2:Int),r8.s,aW,(aw 0).wrap r9.z⟩⟩:dz) rfl fun r10 hi23=> ?_
 dsimp only[cL]at hi23
 refine aE (by simp[qL,qI,qS,qY,aC]) ?_
 exact cm hK ⟨⟨(aw 1).wrap r1.z,(2:Int),r8.s,aW,(aw 0).wrap r9.z⟩,r10.q⟩
 refine aE (by simp[qL,qI,qS,qY,aC]) ?_
 exact cm hK ⟨⟨(aw 1).wrap r1.z,(2:Int),r8.s,aW,(aw 0).wrap r9.z⟩,false=true⟩
 refine aE (by simp[qL,qI,qS,qY,aC]) ?_
 refine aE (by simp[qL,qI,qS,qY,aC]) ?_
 exact cm hK ⟨⟨(aw 1).wrap r1.z,(2:Int),r8.s,aW,(aw 0).wrap r9.z⟩,false=true⟩
 refine iI (fun hc24=> ?_) (fun hc24=> ?_)
 exact cm hK ⟨⟨(aw 1).wrap r1.z,(1:Int),aW,aW,(0:Int)⟩,false=true⟩
 refine ay (⟨⟨r2.hl,r2.l,r2.odd⟩⟩:fk) rfl (by(try dsimp only[cD]);assumption) fun r11 hi25=> ?_
 dsimp only[da]at hi25
 obtain⟨hi25,hs25⟩:=hi25
 refine ay (⟨⟨r11.hl,r11.l,r11.odd⟩⟩:fk) rfl (by(try dsimp only[cD]);assumption) fun r12 hi26=> ?_
 dsimp only[da]at hi26
 obtain⟨hi26,hs26⟩:=hi26
 refine iI (fun hc27=> ?_) (fun hc27=> ?_)
 refine aE (by simp[qL,qI,qS,qY,aC]) ?_
 refine iI (fun hc28=> ?_) (fun hc28=> ?_)
 refine cU (⟨⟨(aw 1).wrap r1.z,(1:Int),r11.s,r12.s,(0:Int)⟩⟩:dz) rfl fun r13 hi29=> ?_
 dsimp only[cL]at hi29
 refine aE (by simp[qL,qI,qS,qY,aC]) ?_
 exact cm hK ⟨⟨(aw 1).wrap r1.z,(1:Int),r11.s,r12.s,(0:Int)⟩,r13.q⟩
 refine aE (by simp[qL,qI,qS,qY,aC]) ?_
 exact cm hK ⟨⟨(aw 1).wrap r1.z,(1:Int),r11.s,r12.s,(0:Int)⟩,false=true⟩
 refine aE (by simp[qL,qI,qS,qY,aC]) ?_
 refine aE (by simp[qL,qI,qS,qY,aC]) ?_
 exact cm hK ⟨⟨(aw 1).wrap r1.z,(1:Int),r11.s,r12.s,(0:Int)⟩,false=true⟩
 refine iI (fun hc30=> ?_) (fun hc30=> ?_)
 exact cm hK ⟨⟨(aw 1).wrap r1.z,(0:Int),aW,aW,(0:Int)⟩,false=true⟩
 refine ay (⟨⟨r2.hl,r2.l,r2.odd⟩⟩:fk) rfl (by(try dsimp only[cD]);assumption) fun r14 hi31=> ?_
 dsimp only[da]at hi31
 obtain⟨hi31,hs31⟩:=hi31
 refine iI (fun hc32=> ?_) (fun hc32=> ?_)
 refine aE (by simp[qL,qI,qS,qY,aC]) ?_
 refine iI (fun hc33=> ?_) (fun hc33=> ?_)
 refine cU (⟨⟨(aw 1).wrap r1.z,(0:Int),r14.s,aW,(0:Int)⟩⟩:dz) rfl fun r15 hi34=> ?_
 dsimp only[cL]at hi34
 refine aE (by simp[qL,qI,qS,qY,aC]) ?_
 exact cm hK ⟨⟨(aw 1).wrap r1.z,(0:Int),r14.s,aW,(0:Int)⟩,r15.q⟩
 refine aE (by simp[qL,qI,qS,qY,aC]) ?_
 exact cm hK ⟨⟨(aw 1).wrap r1.z,(0:Int),r14.s,aW,(0:Int)⟩,false=true⟩
 refine aE (by simp[qL,qI,qS,qY,aC]) ?_
 refine aE (by simp[qL,qI,qS,qY,aC]) ?_
 exact cm hK ⟨⟨(aw 1).wrap r1.z,(0:Int),r14.s,aW,(0:Int)⟩,false=true⟩
noncomputable def uF:=bN ux 0 (ck qW (dP mF uk)) 81 [(0,22)]
theorem vu:aZ Tryz.prog uF:=aR (cJ (f:=81) (k:=0) (aQ vn) HH (by rfl) (by rfl) MS) vn
theorem pV {r t:ah} {l1 l2:TX} {o1 o2 q:Prop} {w:List UInt8} {z m:Int} (i:Int) (hi:r.set=i) (h1:Bt r.l l1 r.odd o1 w) (hw:w=xU i) (h2:zM m l1 l2 o1 o2 z) (hm:m=rz i) (ho:¬r.odd)
  (hq:q↔(¬o2∧l2=[])∧r.gs≠[]) (ht:dt t=⟨r.gs,fo ⟨r.clients,r.window,r.deadline,r.pace,r.again,r.bag,r.first⟩ i z,r.os.map cx,i+1⟩):(q→pY (dt r) r.l (dt t))∧(¬q→∀b,¬pY (dt r) r.l b):=by
 subst hi;subst hm
 rw[ht]
 exact Sv (a:=dt r) h1 hw h2 ho hq
theorem ZD {α:Type} {o:Prop} {l:TX} {s u v:List UInt8} {gs:List α} {x:α} (h1:¬o) (h2:(l.length:Int)=0) (h3:s=u∨s=v):((gs++[x]).length:Int)≤4↔(¬o∧l=[])∧(s=u∨s=v)∧(gs.length:Int)+1≤4:=by
 rw[aaC,List.length_singleton]
 exact⟨fun h=>⟨⟨h1,aaX (by omega)⟩,h3,by omega⟩,fun h=>by omega⟩
theorem Em {o A S:Prop} (h:¬¬o):false=true↔(¬o∧A)∧S:=⟨fun q=>(by cases q),fun q=>absurd q.1.1 h⟩
theorem El {o S:Prop} {l:TX} (h:¬(l.length:Int)=0):false=true↔(¬o∧l=[])∧S:=⟨fun q=>(by cases q),fun q=>absurd (by rw[q.1.2];rfl) h⟩
theorem hgD {A S:Prop} {s u v:List UInt8} (h1:¬s=u) (h2:¬s=v):false=true↔A∧(s=u∨s=v)∧S:=⟨fun q=>(by cases q),fun q=>(q.2.1.elim h1 h2).elim⟩
theorem Hq {α:Type} {o:Prop} {l:TX} {gs:List α} (h1:¬o) (h2:(l.length:Int)=0):(0:Int)<(gs.length:Int)↔(¬o∧l=[])∧gs≠[]:=
 ⟨fun h=>⟨⟨h1,aaX (by omega)⟩,fun q=>by rw[q]at h;simp at h⟩,fun h=>by have:=List.length_pos_iff.2 h.2;omega⟩
def wO:XF:=.mk 61 (.one 2) (.aft (.seq (g_ 1 [p_ 0 2 (.mv (.c (.bool false)))]) (.seq (g_ 4 [p_ 0 5 (m_ 0),p_ 1 6 (n_ 5),p_ 2 7 (f_ 0 6),c_ 3 8 83 [.t 7,.c (.str [103,114,111,117,112])]]) (.seq (.reg true 11 (.split 3 9 (.split 7 9 (.leaf [p_ 0 9 (m_ 0),p_ 1 10 (n_ 9),p_ 2 11 (f_ 0 10),p_ 4 13 (m_ 0),p_ 5 14 (n_ 13),p_ 6 15 (f_ 0 14),c_ 3 12 79 [.t 11],c_ 7 16 79 [.t 15],p_ 8 17 (.bld [.int 0 (.ofNat 0),.int 0 (.ofNat 0),.bool false] [(0,1),(1,1)] [.t 12,.t 16]),e_ 9 3 (.al 82 [.int 0 (.ofNat 0),.int 0 (.ofNat 0),.bool false]),bd 10 (.st 3 (.t 3) (.t 17))]) (.leaf [p_ 0 9 (m_ 0),p_ 1 10 (n_ 9),p_ 2 11 (f_ 0 10),p_ 4 13 (m_ 0),p_ 5 14 (n_ 13),p_ 6 15 (f_ 0 14),c_ 3 12 79 [.t 11],e_ 9 3 (.al 82 [.int 0 (.ofNat 0),.int 0 (.ofNat 0),.bool false]),c_ 7 16 79 [.t 15],p_ 8 17 (.bld [.int 0 (.ofNat 0),.int 0 (.ofNat 0),.bool false] [(0,1),(1,1)] [.t 12,.t 16]),bd 10 (.st 3 (.t 3) (.t 17))])) (.leaf [p_ 0 9 (m_ 0),p_ 1 10 (n_ 9),p_ 2 11 (f_ 0 10),p_ 4 13 (m_ 0),p_ 5 14 (n_ 13),p_ 6 15 (f_ 0 14),e_ 9 3 (.al 82 [.int 0 (.ofNat 0),.int 0 (.ofNat 0),.bool false]),c_ 3 12 79 [.t 11],c_ 7 16 79 [.t 15],p_ 8 17 (.bld [.int 0 (.ofNat 0),.int 0 (.ofNat 0),.bool false] [(0,1),(1,1)] [.t 12,.t 16]),bd 10 (.st 3 (.t 3) (.t 17))]))) (.seq (g_ 5 [p_ 0 18 (m_ 0),p_ 1 19 (n_ 18),p_ 2 20 (f_ 0 19),c_ 3 21 78 [.t 20],p_ 4 4 (m_ 21)]) (.seq (g_ 4 [p_ 0 22 (m_ 4),p_ 1 23 (.bin 5 0 (.t 22) (.c (.str [99,104,101,99,107]))),p_ 2 24 (f_ 2 3),bd 3 (.st 1 (.t 24) (.t 23))]) (.seq (h_ 15 [p_ 0 25 (m_ 0),p_ 1 26 (m_ 0),p_ 2 27 (n_ 26),p_ 3 28 (f_ 2 27),p_ 4 29 (f_ 0 28),p_ 5 30 (f_ 0 29),r_ 6 31 (l_ 30),r_ 7 32 (.ld true 3 (.t 3)),e_ 8 33 (.bsl 82 3 1 [.int 0 (.ofNat 0),.int 0 (.ofNat 0),.bool false] [(0,3)] [.t 32]),a_ 6 31 (l_ 30),e_ 9 34 (.app 82 3 24 (.t 31) (.t 33)),p_ 10 35 (n_ 25),p_ 11 36 (f_ 2 35),p_ 12 37 (f_ 0 36),p_ 13 38 (f_ 0 37),bd 14 (.st 1 (.t 38) (.t 34))]) (.seq (g_ 23 [p_ 0 39 (m_ 0),p_ 1 40 (n_ 39),p_ 2 41 (f_ 0 40),c_ 3 42 82 [.t 41],p_ 4 43 (m_ 42),au 5 44 43 true (f_ 2 3),aY 6 45 43 true (l_ 44),au 7 46 43 true (m_ 45),au 8 47 46 false (m_ 4),au 9 48 46 false (.bin 5 0 (.t 47) (.c (.str [112,108,97,105,110]))),au 10 49 43 true (.pick (.t 46) (.c (.bool true)) (.t 48)),p_ 11 50 (.pick (.t 43) (.t 49) (.c (.bool false))),p_ 12 51 (m_ 50),au 13 52 51 true (m_ 0),au 14 53 51 true (n_ 52),au 15 54 51 true (f_ 2 53),au 16 55 51 true (f_ 0 54),au 17 56 51 true (f_ 0 55),aY 18 57 51 true (l_ 56),au 19 58 51 true (k_ 57),au 20 59 51 true (.bin 3 1 (.t 58) (i_ 4)),p_ 21 60 (.pick (.t 51) (.t 59) (.c (.bool false))),p_ 22 2 (m_ 60)]) .ret))))))) [(0,[.upc 0 0 0,.upc 0 0 1,.upc 0 0 2,.upc 0 0 3,.upc 0 0 4,.upc 0 0 5,.upc 0 0 6,.upc 0 0 7,.upc 0 0 8,.upc 0 0 9,.upc 0 0 10,.upc 0 0 11,.upc 0 0 12,.upc 0 0 13,.up 2]),(1,[.upc 0 0 0,.upc 0 0 1,.upc 0 0 2,.upc 0 0 3,.upc 0 0 4,.upc 0 0 5,.upc 0 0 6,.upc 0 0 7,.upc 0 0 8,.upc 0 0 9,.upc 0 0 10,.upc 0 0 11,.upc 0 0 12,.upc 0 0 13,.up 2])])
theorem BF:ci Tryz.prog 49 wO=true:=by kernel_rfl
structure ic where
 r:ah
structure sM where
 t:ah
 q:Prop
def jK (p:ic) (r:sM):Prop:=(r.t.line=p.r.line∧r.t.op=p.r.op∧r.t.os=p.r.os∧r.t.set=p.r.set)∧((r.q→Hs (dt p.r) p.r.l (dt r.t))∧(¬r.q→∀b,¬Hs (dt p.r) p.r.l b))
noncomputable def li (p:ic):IE:=([.ptr 0 0],(aO p.r),3)
noncomputable def oL (p:ic) (K:KE):Bool:=ai fun r:sM=>iP (jK p r) (K (.sy (.bool r.q)) (aO r.t) 3) true
def jc (p:ic):Prop:=bU p.r.l∧¬p.r.odd∧p.r.gs.length≤4
theorem cn {p:ic} {K:KE} (hK:oL p K=true) (r:sM) (h:jK p r:=by dsimp only[jK]<;>(exact⟨⟨rfl,rfl,rfl,rfl⟩,TM (a:=dt p.r) (u:=dU) (v:=zm) (by assumption) (by decide) (by assumption) (by assumption) (by assumption) q2 (by decide) (by decide) (by first|exact ZD (by assumption) (by assumption) (.inl (by assumption))|exact ZD (by assumption) (by assumption) (.inr (by assumption))|exact Em (by assumption)|exact El (by assumption)|exact hgD (by assumption) (by assumption))⟩)):K (.sy (.bool r.q)) (aO r.t) 3=true:=aq h (az hK r)
theorem FD (p:ic) (K:KE) (hpre:jc p) (hK:oL p K=true):(cw 1 (cj uF) dC 600 wO (li p).1 (li p).2.1 (li p).2.2 K)=true:=by
 refine Eq.trans (b:=(aH (([.ptr 0 0,.str [103,114,111,117,112]],(aO p.r),3)) tB ol qb fun p1 r1=>ac (ac (aH (([.ptr 0 0],(aO ({p1.r with hl:=r1.hl,l:=r1.l,odd:=r1.odd}:ah)),3)) bL aJ aL fun p2 r2=>aH (([.ptr 0 0],(aO ({p2.r with hl:=r2.hl,l:=r2.l,odd:=r2.odd}:ah)),3)) bL aJ aL fun p3 r3=>aH (([.ptr 0 0],(aO ({p3.r with hl:=r3.hl,l:=r3.l,odd:=r3.odd}:ah)),3)) iu cX du fun p4 r4=>mP (((.prow 14 p4.r.gs.length):SY)=(.prow 14 p4.r.gs.length)) (mP (p4.r.gs.length=p4.r.gs.length) (aN fun m1:List aM=>mP (ie (m1.map aT) [[.sint 0 r2.z,.sint 0 r3.z,.sbool (r4.s=dU)]]) (mP (dW 24 (p4.r.gs.length+m1.length)) (iP (¬r4.odd) (iP ((r4.l.length:Int)=(0:Int)) (iP (r4.s=dU) (K (.sy (.bool (((p4.r.gs++m1).length:Int)≤(4:Int)))) (aO ({p4.r with hl:=r4.hl,l:=r4.l,odd:=r4.odd,gs:=p4.r.gs++m1}:ah)) 3) (iP (r4.s=zm) (K (.sy (.bool (((p4.r.gs++m1).length:Int)≤(4:Int)))) (aO ({p4.r with hl:=r4.hl,l:=r4.l,odd:=r4.odd,gs:=p4.r.gs++m1}:ah)) 3) (K (.sy (.bool (false=true))) (aO ({p4.r with hl:=r4.hl,l:=r4.l,odd:=r4.odd,gs:=p4.r.gs++m1}:ah)) 3))) (K (.sy (.bool (false=true))) (aO ({p4.r with hl:=r4.hl,l:=r4.l,odd:=r4.odd,gs:=p4.r.gs++m1}:ah)) 3)) (K (.sy (.bool (false=true))) (aO ({p4.r with hl:=r4.hl,l:=r4.l,odd:=r4.odd,gs:=p4.r.gs++m1}:ah)) 3)))))) (aH (([.ptr 0 0],(aO ({p1.r with hl:=r1.hl,l:=r1.l,odd:=r1.odd}:ah)),3)) bL aJ aL fun p5 r5=>aH (([.ptr 0 0],(aO ({p5.r with hl:=r5.hl,l:=r5.l,odd:=r5.odd}:ah)),3)) bL aJ aL fun p6 r6=>aH (([.ptr 0 0],(aO ({p6.r with hl:=r6.hl,l:=r6.l,odd:=r6.odd}:ah)),3)) iu cX du fun p7 r7=>mP (((.prow 14 p7.r.gs.length):SY)=(.prow 14 p7.r.gs.length)) (mP (p7.r.gs.length=p7.r.gs.length) (aN fun m2:List aM=>mP (ie (m2.map aT) [[.sint 0 r5.z,.sint 0 r6.z,.sbool (r7.s=dU)]]) (mP (dW 24 (p7.r.gs.length+m2.length)) (iP (¬r7.odd) (iP ((r7.l.length:Int)=(0:Int)) (iP (r7.s=dU) (K (.sy (.bool (((p7.r.gs++m2).length:Int)≤(4:Int)))) (aO ({p7.r with hl:=r7.hl,l:=r7.l,odd:=r7.odd,gs:=p7.r.gs++m2}:ah)) 3) (iP (r7.s=zm) (K (.sy (.bool (((p7.r.gs++m2).length:Int)≤(4:Int)))) (aO ({p7.r with hl:=r7.hl,l:=r7.l,odd:=r7.odd,gs:=p7.r.gs++m2}:ah)) 3) (K (.sy (.bool (false=true))) (aO ({p7.r with hl:=r7.hl,l:=r7.l,odd:=r7.odd,gs:=p7.r.gs++m2}:ah)) 3))) (K (.sy (.bool (false=true))) (aO ({p7.r with hl:=r7.hl,l:=r7.l,odd:=r7.odd,gs:=p7.r.gs++m2}:ah)) 3)) (K (.sy (.bool (false=true))) (aO ({p7.r with hl:=r7.hl,l:=r7.l,odd:=r7.odd,gs:=p7.r.gs++m2}:ah)) 3))))))) (aH (([.ptr 0 0],(aO ({p1.r with hl:=r1.hl,l:=r1.l,odd:=r1.odd}:ah)),3)) bL aJ aL fun p8 r8=>aH (([.ptr 0 0],(aO ({p8.r with hl:=r8.hl,l:=r8.l,odd:=r8.odd}:ah)),3)) bL aJ aL fun p9 r9=>aH (([.ptr 0 0],(aO ({p9.r with hl:=r9.hl,l:=r9.l,odd:=r9.odd}:ah)),3)) iu cX du fun p10 r10=>mP (((.prow 14 p10.r.gs.length):SY)=(.prow 14 p10.r.gs.length)) (mP (p10.r.gs.length=p10.r.gs.length) (aN fun m3:List aM=>mP (ie (m3.map aT) [[.sint 0 r8.z,.sint 0 r9.z,.sbool (r10.s=dU)]]) (mP (dW 24 (p10.r.gs.length+m3.length)) (iP (¬r10.odd) (iP ((r10.l.length:Int)=(0:Int)) (iP (r10.s=dU) (K (.sy (.bool (((p10.r.gs++m3).length:Int)≤(4:Int)))) (aO ({p10.r with hl:=r10.hl,l:=r10.l,odd:=r10.odd,gs:=p10.r.gs++m3}:ah)) 3) (iP (r10.s=zm) (K (.sy (.bool (((p10.r.gs++m3).length:Int)≤(4:Int)))) (aO ({p10.r with hl:=r10.hl,l:=r10.l,odd:=r10.odd,gs:=p10.r.gs++m3}:ah)) 3) (K (.sy (.bool (false=true))) (aO ({p10.r with hl:=r10.hl,l:=r10.l,odd:=r10.odd,gs:=p10.r.gs++m3}:ah)) 3))) (K (.sy (.bool (false=true))) (aO ({p10.r with hl:=r10.hl,l:=r10.l,odd:=r10.odd,gs:=p10.r.gs++m3}:ah)) 3)) (K (.sy (.bool (false=true))) (aO ({p10.r with hl:=r10.hl,l:=r10.l,odd:=r10.odd,gs:=p10.r.gs++m3}:ah)) 3)))))))) (by kernel_rfl) ?_
 dsimp only[jc]at hpre
 obtain⟨q1,q2,q3⟩:=hpre
 refine ay (⟨p.r,([103,114,111,117,112]:List Nat)⟩:nN) rfl (by(try dsimp only[ol]);assumption) fun r1 hi1=> ?_
 dsimp only[qb]at hi1
 obtain⟨hi1,hs1⟩:=hi1
 refine aE ?_ ?_
 refine aE ?_ ?_
 refine ay (⟨({p.r with hl:=r1.hl,l:=r1.l,odd:=r1.odd}:ah)⟩:bx) rfl (by(try dsimp only[aJ]);assumption) fun r2 hi2=> ?_
 dsimp only[aL]at hi2
 obtain⟨hi2,hs2⟩:=hi2
 refine ay (⟨({({p.r with hl:=r1.hl,l:=r1.l,odd:=r1.odd}:ah) with hl:=r2.hl,l:=r2.l,odd:=r2.odd}:ah)⟩:bx) rfl (by(try dsimp only[aJ]);assumption) fun r3 hi3=> ?_
 dsimp only[aL]at hi3
 obtain⟨hi3,hs3⟩:=hi3
 refine ay (⟨({({({p.r with hl:=r1.hl,l:=r1.l,odd:=r1.odd}:ah) with hl:=r2.hl,l:=r2.l,odd:=r2.odd}:ah) with hl:=r3.hl,l:=r3.l,odd:=r3.odd}:ah)⟩:fL) rfl (by(try dsimp only[cX]);assumption) fun r4 hi4=> ?_
 dsimp only[du]at hi4
 obtain⟨hi4,hs4⟩:=hi4
 refine bi (bi ?_)
 refine bj [(⟨r2.z,r3.z,r4.s=dU⟩:aM)] ?_
 refine wI (mI (by(try dsimp only);(first|omega|(simp[dW]<;>omega))) ?_)
 refine iI (fun hc5=> ?_) (fun hc5=> ?_)
 refine iI (fun hc6=> ?_) (fun hc6=> ?_)
 refine iI (fun hc7=> ?_) (fun hc7=> ?_)
 exact cn hK ⟨({({({({p.r with hl:=r1.hl,l:=r1.l,odd:=r1.odd}:ah) with hl:=r2.hl,l:=r2.l,odd:=r2.odd}:ah) with hl:=r3.hl,l:=r3.l,odd:=r3.odd}:ah) with hl:=r4.hl,l:=r4.l,odd:=r4.odd,gs:=p.r.gs++[(⟨r2.z,r3.z,r4.s=dU⟩:aM)]}:ah),((p.r.gs++[(⟨r2.z,r3.z,r4.s=dU⟩:aM)]).length:Int)≤(4:Int)⟩
 refine iI (fun hc8=> ?_) (fun hc8=> ?_)
 exact cn hK ⟨({({({({p.r with hl:=r1.hl,l:=r1.l,odd:=r1.odd}:ah) with hl:=r2.hl,l:=r2.l,odd:=r2.odd}:ah) with hl:=r3.hl,l:=r3.l,odd:=r3.odd}:ah) with hl:=r4.hl,l:=r4.l,odd:=r4.odd,gs:=p.r.gs++[(⟨r2.z,r3.z,r4.s=dU⟩:aM)]}:ah),((p.r.gs++[(⟨r2.z,r3.z,r4.s=dU⟩:aM)]).length:Int)≤(4:Int)⟩
 exact cn hK ⟨({({({({p.r with hl:=r1.hl,l:=r1.l,odd:=r1.odd}:ah) with hl:=r2.hl,l:=r2.l,odd:=r2.odd}:ah) with hl:=r3.hl,l:=r3.l,odd:=r3.odd}:ah) with hl:=r4.hl,l:=r4.l,odd:=r4.odd,gs:=p.r.gs++[(⟨r2.z,r3.z,r4.s=dU⟩:aM)]}:ah),false=true⟩
 exact cn hK ⟨({({({({p.r with hl:=r1.hl,l:=r1.l,odd:=r1.odd}:ah) with hl:=r2.hl,l:=r2.l,odd:=r2.odd}:ah) with hl:=r3.hl,l:=r3.l,odd:=r3.odd}:ah) with hl:=r4.hl,l:=r4.l,odd:=r4.odd,gs:=p.r.gs++[(⟨r2.z,r3.z,r4.s=dU⟩:aM)]}:ah),false=true⟩
 exact cn hK ⟨({({({({p.r with hl:=r1.hl,l:=r1.l,odd:=r1.odd}:ah) with hl:=r2.hl,l:=r2.l,odd:=r2.odd}:ah) with hl:=r3.hl,l:=r3.l,odd:=r3.odd}:ah) with hl:=r4.hl,l:=r4.l,odd:=r4.odd,gs:=p.r.gs++[(⟨r2.z,r3.z,r4.s=dU⟩:aM)]}:ah),false=true⟩
 refine ay (⟨({p.r with hl:=r1.hl,l:=r1.l,odd:=r1.odd}:ah)⟩:bx) rfl (by(try dsimp only[aJ]);assumption) fun r5 hi9=> ?_
 dsimp only[aL]at hi9
 obtain⟨hi9,hs9⟩:=hi9
 refine ay (⟨({({p.r with hl:=r1.hl,l:=r1.l,odd:=r1.odd}:ah) with hl:=r5.hl,l:=r5.l,odd:=r5.odd}:ah)⟩:bx) rfl (by(try dsimp only[aJ]);assumption) fun r6 hi10=> ?_
 dsimp only[aL]at hi10
 obtain⟨hi10,hs10⟩:=hi10
 refine ay (⟨({({({p.r with hl:=r1.hl,l:=r1.l,odd:=r1.odd}:ah) with hl:=r5.hl,l:=r5.l,odd:=r5.odd}:ah) with hl:=r6.hl,l:=r6.l,odd:=r6.odd}:ah)⟩:fL) rfl (by(try dsimp only[cX]);assumption) fun r7 hi11=> ?_
 dsimp only[du]at hi11
 obtain⟨hi11,hs11⟩:=hi11
 refine bi (bi ?_)
 refine bj [(⟨r5.z,r6.z,r7.s=dU⟩:aM)] ?_
 refine wI (mI (by(try dsimp only);(first|omega|(simp[dW]<;>omega))) ?_)
 refine iI (fun hc12=> ?_) (fun hc12=> ?_)
 refine iI (fun hc13=> ?_) (fun hc13=> ?_)
 refine iI (fun hc14=> ?_) (fun hc14=> ?_)
 exact cn hK ⟨({({({({p.r with hl:=r1.hl,l:=r1.l,odd:=r1.odd}:ah) with hl:=r5.hl,l:=r5.l,odd:=r5.odd}:ah) with hl:=r6.hl,l:=r6.l,odd:=r6.odd}:ah) with hl:=r7.hl,l:=r7.l,odd:=r7.odd,gs:=p.r.gs++[(⟨r5.z,r6.z,r7.s=dU⟩:aM)]}:ah),((p.r.gs++[(⟨r5.z,r6.z,r7.s=dU⟩:aM)]).length:Int)≤(4:Int)⟩
 refine iI (fun hc15=> ?_) (fun hc15=> ?_)
 exact cn hK ⟨({({({({p.r with hl:=r1.hl,l:=r1.l,odd:=r1.odd}:ah) with hl:=r5.hl,l:=r5.l,odd:=r5.odd}:ah) with hl:=r6.hl,l:=r6.l,odd:=r6.odd}:ah) with hl:=r7.hl,l:=r7.l,odd:=r7.odd,gs:=p.r.gs++[(⟨r5.z,r6.z,r7.s=dU⟩:aM)]}:ah),((p.r.gs++[(⟨r5.z,r6.z,r7.s=dU⟩:aM)]).length:Int)≤(4:Int)⟩
 exact cn hK ⟨({({({({p.r with hl:=r1.hl,l:=r1.l,odd:=r1.odd}:ah) with hl:=r5.hl,l:=r5.l,odd:=r5.odd}:ah) with hl:=r6.hl,l:=r6.l,odd:=r6.odd}:ah) with hl:=r7.hl,l:=r7.l,odd:=r7.odd,gs:=p.r.gs++[(⟨r5.z,r6.z,r7.s=dU⟩:aM)]}:ah),false=true⟩
 exact cn hK ⟨({({({({p.r with hl:=r1.hl,l:=r1.l,odd:=r1.odd}:ah) with hl:=r5.hl,l:=r5.l,odd:=r5.odd}:ah) with hl:=r6.hl,l:=r6.l,odd:=r6.odd}:ah) with hl:=r7.hl,l:=r7.l,odd:=r7.odd,gs:=p.r.gs++[(⟨r5.z,r6.z,r7.s=dU⟩:aM)]}:ah),false=true⟩
 exact cn hK ⟨({({({({p.r with hl:=r1.hl,l:=r1.l,odd:=r1.odd}:ah) with hl:=r5.hl,l:=r5.l,odd:=r5.odd}:ah) with hl:=r6.hl,l:=r6.l,odd:=r6.odd}:ah) with hl:=r7.hl,l:=r7.l,odd:=r7.odd,gs:=p.r.gs++[(⟨r5.z,r6.z,r7.s=dU⟩:aM)]}:ah),false=true⟩
 refine ay (⟨({p.r with hl:=r1.hl,l:=r1.l,odd:=r1.odd}:ah)⟩:bx) rfl (by(try dsimp only[aJ]);assumption) fun r8 hi16=> ?_
 dsimp only[aL]at hi16
 obtain⟨hi16,hs16⟩:=hi16
 refine ay (⟨({({p.r with hl:=r1.hl,l:=r1.l,odd:=r1.odd}:ah) with hl:=r8.hl,l:=r8.l,odd:=r8.odd}:ah)⟩:bx) rfl (by(try dsimp only[aJ]);assumption) fun r9 hi17=> ?_
 dsimp only[aL]at hi17
 obtain⟨hi17,hs17⟩:=hi17
 refine ay (⟨({({({p.r with hl:=r1.hl,l:=r1.l,odd:=r1.odd}:ah) with hl:=r8.hl,l:=r8.l,odd:=r8.odd}:ah) with hl:=r9.hl,l:=r9.l,odd:=r9.odd}:ah)⟩:fL) rfl (by(try dsimp only[cX]);assumption) fun r10 hi18=> ?_
 dsimp only[du]at hi18
 obtain⟨hi18,hs18⟩:=hi18
 refine bi (bi ?_)
 refine bj [(⟨r8.z,r9.z,r10.s=dU⟩:aM)] ?_
 refine wI (mI (by(try dsimp only);(first|omega|(simp[dW]<;>omega))) ?_)
 refine iI (fun hc19=> ?_) (fun hc19=> ?_)
 refine iI (fun hc20=> ?_) (fun hc20=> ?_)
 refine iI (fun hc21=> ?_) (fun hc21=> ?_)
 exact cn hK ⟨({({({({p.r with hl:=r1.hl,l:=r1.l,odd:=r1.odd}:ah) with hl:=r8.hl,l:=r8.l,odd:=r8.odd}:ah) with hl:=r9.hl,l:=r9.l,odd:=r9.odd}:ah) with hl:=r10.hl,l:=r10.l,odd:=r10.odd,gs:=p.r.gs++[(⟨r8.z,r9.z,r10.s=dU⟩:aM)]}:ah),((p.r.gs++[(⟨r8.z,r9.z,r10.s=dU⟩:aM)]).length:Int)≤(4:Int)⟩
 refine iI (fun hc22=> ?_) (fun hc22=> ?_)
 exact cn hK ⟨({({({({p.r with hl:=r1.hl,l:=r1.l,odd:=r1.odd}:ah) with hl:=r8.hl,l:=r8.l,odd:=r8.odd}:ah) with hl:=r9.hl,l:=r9.l,odd:=r9.odd}:ah) with hl:=r10.hl,l:=r10.l,odd:=r10.odd,gs:=p.r.gs++[(⟨r8.z,r9.z,r10.s=dU⟩:aM)]}:ah),((p.r.gs++[(⟨r8.z,r9.z,r10.s=dU⟩:aM)]).length:Int)≤(4:Int)⟩
 exact cn hK ⟨({({({({p.r with hl:=r1.hl,l:=r1.l,odd:=r1.odd}:ah) with hl:=r8.hl,l:=r8.l,odd:=r8.odd}:ah) with hl:=r9.hl,l:=r9.l,odd:=r9.odd}:ah) with hl:=r10.hl,l:=r10.l,odd:=r10.odd,gs:=p.r.gs++[(⟨r8.z,r9.z,r10.s=dU⟩:aM)]}:ah),false=true⟩
 exact cn hK ⟨({({({({p.r with hl:=r1.hl,l:=r1.l,odd:=r1.odd}:ah) with hl:=r8.hl,l:=r8.l,odd:=r8.odd}:ah) with hl:=r9.hl,l:=r9.l,odd:=r9.odd}:ah) with hl:=r10.hl,l:=r10.l,odd:=r10.odd,gs:=p.r.gs++[(⟨r8.z,r9.z,r10.s=dU⟩:aM)]}:ah),false=true⟩
 exact cn hK ⟨({({({({p.r with hl:=r1.hl,l:=r1.l,odd:=r1.odd}:ah) with hl:=r8.hl,l:=r8.l,odd:=r8.odd}:ah) with hl:=r9.hl,l:=r9.l,odd:=r9.odd}:ah) with hl:=r10.hl,l:=r10.l,odd:=r10.odd,gs:=p.r.gs++[(⟨r8.z,r9.z,r10.s=dU⟩:aM)]}:ah),false=true⟩
noncomputable def oQ:=bN uF 1 (ck li (dP jc oL)) 49 []
theorem qt:aZ Tryz.prog oQ:=aR (cJ (f:=49) (k:=1) (aQ vu) BF (by rfl) (by rfl) FD) vu
def tg:XF:=.mk 85 (.one 2) (.pre [.fixc 0 0 11 7] (.aft (.seq (g_ 1 [p_ 0 2 (.mv (.c (.bool false)))]) (.seq (g_ 6 [p_ 0 4 (m_ 0),p_ 1 5 (n_ 4),p_ 2 6 (f_ 2 5),p_ 3 7 (f_ 0 6),c_ 4 8 37 [.t 7],p_ 5 3 (m_ 8)]) (.seq (.seq (g_ 7 [p_ 0 9 (m_ 0),p_ 1 10 (n_ 9),p_ 2 11 (f_ 11 10),r_ 3 12 (l_ 11),p_ 4 13 (m_ 3),p_ 5 14 (k_ 13),p_ 6 15 (.bin 3 0 (.t 12) (.t 14))]) (.cond (.t 15) (.seq (h_ 12 [p_ 0 16 (m_ 0),p_ 1 17 (n_ 16),p_ 2 18 (f_ 0 17),p_ 3 19 (m_ 3),p_ 4 20 (m_ 0),p_ 5 21 (n_ 20),p_ 6 22 (f_ 11 21),r_ 7 23 (l_ 22),p_ 8 24 (.ixs 2 (.t 19) (.t 23)),p_ 9 25 (f_ 0 24),r_ 10 26 (l_ 25),c_ 11 27 83 [.t 18,.t 26]]) (h_ 14 [p_ 0 28 (m_ 3),p_ 1 29 (m_ 0),p_ 2 30 (n_ 29),p_ 3 31 (f_ 11 30),r_ 4 32 (l_ 31),p_ 5 33 (.ixs 2 (.t 28) (.t 32)),p_ 6 34 (f_ 1 33),r_ 7 35 (l_ 34),p_ 8 36 (m_ 0),p_ 9 37 (n_ 36),p_ 10 38 (f_ 0 37),c_ 11 39 79 [.t 38],a_ 4 32 (l_ 31),a_ 7 35 (l_ 34),p_ 12 40 (n_ 35),bd 13 (.st 1 (.t 40) (.t 39))])) (.seq (g_ 4 [p_ 0 41 (m_ 0),p_ 1 42 (n_ 41),p_ 2 43 (f_ 0 42),c_ 3 44 83 [.t 43,.c (.str [102,105,114,115,116])]]) (g_ 10 [p_ 0 45 (m_ 0),p_ 1 46 (m_ 0),p_ 2 47 (n_ 46),p_ 3 48 (f_ 0 47),c_ 4 49 80 [.t 48,.c (.int 4 (.ofNat 18446744073709551615))],p_ 5 50 (n_ 45),p_ 6 51 (f_ 2 50),p_ 7 52 (f_ 0 51),p_ 8 53 (f_ 7 52),bd 9 (.st 1 (.t 53) (.t 49))])))) (.seq (g_ 8 [p_ 0 54 (m_ 0),p_ 1 55 (n_ 54),p_ 2 56 (f_ 11 55),r_ 3 57 (l_ 56),p_ 4 58 (.bin 0 0 (.t 57) (i_ 1)),p_ 5 59 (n_ 54),p_ 6 60 (f_ 11 59),bd 7 (.st 1 (.t 60) (.t 58))]) (.seq (g_ 11 [p_ 0 61 (m_ 0),p_ 1 62 (m_ 0),p_ 2 63 (n_ 62),p_ 3 64 (f_ 11 63),r_ 4 65 (l_ 64),p_ 5 66 (m_ 3),p_ 6 67 (k_ 66),p_ 7 68 (.bin 3 2 (.t 65) (.t 67)),p_ 8 69 (n_ 61),p_ 9 70 (f_ 12 69),bd 10 (.st 1 (.t 70) (.t 68))]) (.seq (g_ 15 [p_ 0 71 (m_ 0),p_ 1 72 (n_ 71),p_ 2 73 (f_ 0 72),c_ 3 74 82 [.t 73],p_ 4 75 (m_ 74),au 5 76 75 true (m_ 0),au 6 77 75 true (n_ 76),au 7 78 75 true (f_ 2 77),au 8 79 75 true (f_ 0 78),au 9 80 75 true (f_ 0 79),aY 10 81 75 true (l_ 80),au 11 82 75 true (k_ 81),au 12 83 75 true (.bin 3 2 (.t 82) (i_ 0)),p_ 13 84 (.pick (.t 75) (.t 83) (.c (.bool false))),p_ 14 2 (m_ 84)]) .ret)))))) [(0,[.upc 0 0 0,.upc 0 0 1,.upc 0 0 2,.upc 0 0 3,.upc 0 0 4,.upc 0 0 5,.upc 0 0 6,.upc 0 0 7,.upc 0 0 8,.upc 0 0 9,.upc 0 0 10,.upc 0 0 11,.upc 0 0 12,.upc 0 0 13,.up 2]),(1,[.upc 0 0 0,.upc 0 0 1,.upc 0 0 2,.upc 0 0 3,.upc 0 0 4,.upc 0 0 5,.upc 0 0 6,.upc 0 0 7,.upc 0 0 8,.upc 0 0 9,.upc 0 0 10,.upc 0 0 11,.upc 0 0 12,.upc 0 0 13,.up 2])]))
theorem yw:ci Tryz.prog 50 tg=true:=by kernel_rfl
structure eJ where
 r:ah
structure oV where
 t:ah
 q:Prop
def eN (p:eJ) (r:oV):Prop:=(r.t.line=p.r.line∧r.t.os=p.r.os∧r.t.gs=p.r.gs∧r.t.set=p.r.set+1∧(r.t.op↔r.t.set=7))∧((r.q→pY (dt p.r) p.r.l (dt r.t))∧(¬r.q→∀b,¬pY (dt p.r) p.r.l b))
noncomputable def gv (p:eJ):IE:=([.ptr 0 0],(aO p.r),3)
noncomputable def mO (p:eJ) (K:KE):Bool:=ai fun r:oV=>iP (eN p r) (K (.sy (.bool r.q)) (aO r.t) 3) true
def ew (p:eJ):Prop:=bU p.r.l∧¬p.r.odd∧0≤p.r.set∧p.r.set≤6
theorem be {p:eJ} {K:KE} (hK:mO p K=true) (r:oV) (h:eN p r:=by dsimp only[eN]<;>(first|exact⟨⟨rfl,rfl,rfl,by omega,by simp⟩,pV 0 (by assumption) (by assumption) (by decide) (numN.X (by assumption)) rfl q2 (by first|exact Hq (by assumption) (by assumption)|exact Em (by assumption)|exact El (by assumption)) (by simp[dt,fo])⟩|exact⟨⟨rfl,rfl,rfl,by omega,by simp⟩,pV 1 (by assumption) (by assumption) (by decide) (numN.X (by assumption)) rfl q2 (by first|exact Hq (by assumption) (by assumption)|exact Em (by assumption)|exact El (by assumption)) (by simp[dt,fo])⟩|exact⟨⟨rfl,rfl,rfl,by omega,by simp⟩,pV 2 (by assumption) (by assumption) (by decide) (numN.X (by assumption)) rfl q2 (by first|exact Hq (by assumption) (by assumption)|exact Em (by assumption)|exact El (by assumption)) (by simp[dt,fo])⟩|exact⟨⟨rfl,rfl,rfl,by omega,by simp⟩,pV 3 (by assumption) (by assumption) (by decide) (numN.X (by assumption)) rfl q2 (by first|exact Hq (by assumption) (by assumption)|exact Em (by assumption)|exact El (by assumption)) (by simp[dt,fo])⟩|exact⟨⟨rfl,rfl,rfl,by omega,by simp⟩,pV 4 (by assumption) (by assumption) (by decide) (numN.X (by assumption)) rfl q2 (by first|exact Hq (by assumption) (by assumption)|exact Em (by assumption)|exact El (by assumption)) (by simp[dt,fo])⟩|exact⟨⟨rfl,rfl,rfl,by omega,by simp⟩,pV 5 (by assumption) (by assumption) (by decide) (numN.X (by assumption)) rfl q2 (by first|exact Hq (by assumption) (by assumption)|exact Em (by assumption)|exact El (by assumption)) (by simp[dt,fo])⟩|exact⟨⟨rfl,rfl,rfl,by omega,by simp⟩,pV 6 (by assumption) (by assumption) (by decide) (numH.X (by assumption)) rfl q2 (by first|exact Hq (by assumption) (by assumption)|exact Em (by assumption)|exact El (by assumption)) (by simp[dt,fo])⟩)):K (.sy (.bool r.q)) (aO r.t) 3=true:=aq h (az hK r)
theorem Cl (p:eJ) (K:KE) (hpre:ew p) (hK:mO p K=true):(cw 1 (cj oQ) dC 600 tg (gv p).1 (gv p).2.1 (gv p).2.2 K)=true:=by
 refine Eq.trans (b:=(iP (p.r.set=0) (aH (([.ptr 0 0,.str [99,108,105,101,110,116,115]],(.node (.node .leaf (some (.prow 82 3 aM p.r.gs aT)) .leaf) (some (.blk false 60 14 [[.sy (.imm p.r.hl 1 (List UInt8) p.r.l aG),.sy (.bool p.r.odd),.sy (.prow 1 p.r.gs.length),.sy (.int 0 p.r.clients),.sy (.int 0 p.r.window),.sy (.int 0 p.r.deadline),.sy (.int 0 p.r.pace),.sy (.int 0 p.r.again),.sy (.int 0 p.r.bag),.sy (.int 4 p.r.first),.sy (.prow 2 p.r.os.length),.int 0 (.ofNat 0),.sy (.bool p.r.op),.sy (.int 0 p.r.line)]])) (.node .leaf (some (.prow 54 9 aI p.r.os aV)) .leaf)),3)) eG cE dj fun p13 r13=>aH (([.ptr 0 0],(.node (.node .leaf (some (.prow 82 3 aM p13.r.gs aT)) .leaf) (some (.blk false 60 14 [[.sy (.imm r13.hl 1 (List UInt8) r13.l aG),.sy (.bool r13.odd),.sy (.prow 1 p13.r.gs.length),.sy (.int 0 p13.r.clients),.sy (.int 0 p13.r.window),.sy (.int 0 p13.r.deadline),.sy (.int 0 p13.r.pace),.sy (.int 0 p13.r.again),.sy (.int 0 p13.r.bag),.sy (.int 4 p13.r.first),.sy (.prow 2 p13.r.os.length),.int 0 (.ofNat 0),.sy (.bool p13.r.op),.sy (.int 0 p13.r.line)]])) (.node .leaf (some (.prow 54 9 aI p13.r.os aV)) .leaf)),3)) dx cu cN fun p14 r14=>iP (¬r14.odd) (iP ((r14.l.length:Int)=(0:Int)) (K (.sy (.bool ((0:Int)<(p14.r.gs.length:Int)))) (aO ({p14.r with hl:=r14.hl,l:=r14.l,odd:=r14.odd,clients:=r14.z,set:=(1:Int),op:=false=true}:ah)) 3) (K (.sy (.bool (false=true))) (aO ({p14.r with hl:=r14.hl,l:=r14.l,odd:=r14.odd,clients:=r14.z,set:=(1:Int),op:=false=true}:ah)) 3)) (K (.sy (.bool (false=true))) (aO ({p14.r with hl:=r14.hl,l:=r14.l,odd:=r14.odd,clients:=r14.z,set:=(1:Int),op:=false=true}:ah)) 3)) (iP (p.r.set=1) (aH (([.ptr 0 0,.str [119,105,110,100,111,119]],(.node (.node .leaf (some (.prow 82 3 aM p.r.gs aT)) .leaf) (some (.blk false 60 14 [[.sy (.imm p.r.hl 1 (List UInt8) p.r.l aG),.sy (.bool p.r.odd),.sy (.prow 1 p.r.gs.length),.sy (.int 0 p.r.clients),.sy (.int 0 p.r.window),.sy (.int 0 p.r.deadline),.sy (.int 0 p.r.pace),.sy (.int 0 p.r.again),.sy (.int 0 p.r.bag),.sy (.int 4 p.r.first),.sy (.prow 2 p.r.os.length),.int 0 (.ofNat 1),.sy (.bool p.r.op),.sy (.int 0 p.r.line)]])) (.node .leaf (some (.prow 54 9 aI p.r.os aV)) .leaf)),3)) eG cE dj fun p11 r11=>aH (([.ptr 0 0],(.node (.node .leaf (some (.prow 82 3 aM p11.r.gs aT)) .leaf) (some (.blk false 60 14 [[.sy (.imm r11.hl 1 (List UInt8) r11.l aG),.sy (.bool r11.odd),.sy (.prow 1 p11.r.gs.length),.sy (.int 0 p11.r.clients),.sy (.int 0 p11.r.window),.sy (.int 0 p11.r.deadline),.sy (.int 0 p11.r.pace),.sy (.int 0 p11.r.again),.sy (.int 0 p11.r.bag),.sy (.int 4 p11.r.first),.sy (.prow 2 p11.r.os.length),.int 0 (.ofNat 1),.sy (.bool p11.r.op),.sy (.int 0 p11.r.line)]])) (.node .leaf (some (.prow 54 9 aI p11.r.os aV)) .leaf)),3)) dx cu cN fun p12 r12=>iP (¬r12.odd) (iP ((r12.l.length:Int)=(0:Int)) (K (.sy (.bool ((0:Int)<(p12.r.gs.length:Int)))) (aO ({p12.r with hl:=r12.hl,l:=r12.l,odd:=r12.odd,window:=r12.z,set:=(2:Int),op:=false=true}:ah)) 3) (K (.sy (.bool (false=true))) (aO ({p12.r with hl:=r12.hl,l:=r12.l,odd:=r12.odd,window:=r12.z,set:=(2:Int),op:=false=true}:ah)) 3)) (K (.sy (.bool (false=true))) (aO ({p12.r with hl:=r12.hl,l:=r12.l,odd:=r12.odd,window:=r12.z,set:=(2:Int),op:=false=true}:ah)) 3)) (iP (p.r.set=2) (aH (([.ptr 0 0,.str [100,101,97,100,108,105,110,101]],(.node (.node .leaf (some (.prow 82 3 aM p.r.gs aT)) .leaf) (some (.blk false 60 14 [[.sy (.imm p.r.hl 1 (List UInt8) p.r.l aG),.sy (.bool p.r.odd),.sy (.prow 1 p.r.gs.length),.sy (.int 0 p.r.clients),.sy (.int 0 p.r.window),.sy (.int 0 p.r.deadline),.sy (.int 0 p.r.pace),.sy (.int 0 p.r.again),.sy (.int 0 p.r.bag),.sy (.int 4 p.r.first),.sy (.prow 2 p.r.os.length),.int 0 (.ofNat 2),.sy (.bool p.r.op),.sy (.int 0 p.r.line)]])) (.node .leaf (some (.prow 54 9 aI p.r.os aV)) .leaf)),3)) eG cE dj fun p9 r9=>aH (([.ptr 0 0],(.node (.node .leaf (some (.prow 82 3 aM p9.r.gs aT)) .leaf) (some (.blk false 60 14 [[.sy (.imm r9.hl 1 (List UInt8) r9.l aG),.sy (.bool r9.odd),.sy (.prow 1 p9.r.gs.length),.sy (.int 0 p9.r.clients),.sy (.int 0 p9.r.window),.sy (.int 0 p9.r.deadline),.sy (.int 0 p9.r.pace),.sy (.int 0 p9.r.again),.sy (.int 0 p9.r.bag),.sy (.int 4 p9.r.first),.sy (.prow 2 p9.r.os.length),.int 0 (.ofNat 2),.sy (.bool p9.r.op),.sy (.int 0 p9.r.line)]])) (.node .leaf (some (.prow 54 9 aI p9.r.os aV)) .leaf)),3)) dx cu cN fun p10 r10=>iP (¬r10.odd) (iP ((r10.l.length:Int)=(0:Int)) (K (.sy (.bool ((0:Int)<(p10.r.gs.length:Int)))) (aO ({p10.r with hl:=r10.hl,l:=r10.l,odd:=r10.odd,deadline:=r10.z,set:=(3:Int),op:=false=true}:ah)) 3) (K (.sy (.bool (false=true))) (aO ({p10.r with hl:=r10.hl,l:=r10.l,odd:=r10.odd,deadline:=r10.z,set:=(3:Int),op:=false=true}:ah)) 3)) (K (.sy (.bool (false=true))) (aO ({p10.r with hl:=r10.hl,l:=r10.l,odd:=r10.odd,deadline:=r10.z,set:=(3:Int),op:=false=true}:ah)) 3)) (iP (p.r.set=3) (aH (([.ptr 0 0,.str [112,97,99,101]],(.node (.node .leaf (some (.prow 82 3 aM p.r.gs aT)) .leaf) (some (.blk false 60 14 [[.sy (.imm p.r.hl 1 (List UInt8) p.r.l aG),.sy (.bool p.r.odd),.sy (.prow 1 p.r.gs.length),.sy (.int 0 p.r.clients),.sy (.int 0 p.r.window),.sy (.int 0 p.r.deadline),.sy (.int 0 p.r.pace),.sy (.int 0 p.r.again),.sy (.int 0 p.r.bag),.sy (.int 4 p.r.first),.sy (.prow 2 p.r.os.length),.int 0 (.ofNat 3),.sy (.bool p.r.op),.sy (.int 0 p.r.line)]])) (.node .leaf (some (.prow 54 9 aI p.r.os aV)) .leaf)),3)) eG cE dj fun p7 r7=>aH (([.ptr 0 0],(.node (.node .leaf (some (.prow 82 3 aM p7.r.gs aT)) .leaf) (some (.blk false 60 14 [[.sy (.imm r7.hl 1 (List UInt8) r7.l aG),.sy (.bool r7.odd),.sy (.prow 1 p7.r.gs.length),.sy (.int 0 p7.r.clients),.sy (.int 0 p7.r.window),.sy (.int 0 p7.r.deadline),.sy (.int 0 p7.r.pace),.sy (.int 0 p7.r.again),.sy (.int 0 p7.r.bag),.sy (.int 4 p7.r.first),.sy (.prow 2 p7.r.os.length),.int 0 (.ofNat 3),.sy (.bool p7.r.op),.sy (.int 0 p7.r.line)]])) (.node .leaf (some (.prow 54 9 aI p7.r.os aV)) .leaf)),3)) dx cu cN fun p8 r8=>iP (¬r8.odd) (iP ((r8.l.length:Int)=(0:Int)) (K (.sy (.bool ((0:Int)<(p8.r.gs.length:Int)))) (aO ({p8.r with hl:=r8.hl,l:=r8.l,odd:=r8.odd,pace:=r8.z,set:=(4:Int),op:=false=true}:ah)) 3) (K (.sy (.bool (false=true))) (aO ({p8.r with hl:=r8.hl,l:=r8.l,odd:=r8.odd,pace:=r8.z,set:=(4:Int),op:=false=true}:ah)) 3)) (K (.sy (.bool (false=true))) (aO ({p8.r with hl:=r8.hl,l:=r8.l,odd:=r8.odd,pace:=r8.z,set:=(4:Int),op:=false=true}:ah)) 3)) (iP (p.r.set=4) (aH (([.ptr 0 0,.str [97,103,97,105,110]],(.node (.node .leaf (some (.prow 82 3 aM p.r.gs aT)) .leaf) (some (.blk false 60 14 [[.sy (.imm p.r.hl 1 (List UInt8) p.r.l aG),.sy (.bool p.r.odd),.sy (.prow 1 p.r.gs.length),.sy (.int 0 p.r.clients),.sy (.int 0 p.r.window),.sy (.int 0 p.r.deadline),.sy (.int 0 p.r.pace),.sy (.int 0 p.r.again),.sy (.int 0 p.r.bag),.sy (.int 4 p.r.first),.sy (.prow 2 p.r.os.length),.int 0 (.ofNat 4),.sy (.bool p.r.op),.sy (.int 0 p.r.line)]])) (.node .leaf (some (.prow 54 9 aI p.r.os aV)) .leaf)),3)) eG cE dj fun p5 r5=>aH (([.ptr 0 0],(.node (.node .leaf (some (.prow 82 3 aM p5.r.gs aT)) .leaf) (some (.blk false 60 14 [[.sy (.imm r5.hl 1 (List UInt8) r5.l aG),.sy (.bool r5.odd),.sy (.prow 1 p5.r.gs.length),.sy (.int 0 p5.r.clients),.sy (.int 0 p5.r.window),.sy (.int 0 p5.r.deadline),.sy (.int 0 p5.r.pace),.sy (.int 0 p5.r.again),.sy (.int 0 p5.r.bag),.sy (.int 4 p5.r.first),.sy (.prow 2 p5.r.os.length),.int 0 (.ofNat 4),.sy (.bool p5.r.op),.sy (.int 0 p5.r.line)]])) (.node .leaf (some (.prow 54 9 aI p5.r.os aV)) .leaf)),3)) dx cu cN fun p6 r6=>iP (¬r6.odd) (iP ((r6.l.length:Int)=(0:Int)) (K (.sy (.bool ((0:Int)<(p6.r.gs.length:Int)))) (aO ({p6.r with hl:=r6.hl,l:=r6.l,odd:=r6.odd,again:=r6.z,set:=(5:Int),op:=false=true}:ah)) 3) (K (.sy (.bool (false=true))) (aO ({p6.r with hl:=r6.hl,l:=r6.l,odd:=r6.odd,again:=r6.z,set:=(5:Int),op:=false=true}:ah)) 3)) (K (.sy (.bool (false=true))) (aO ({p6.r with hl:=r6.hl,l:=r6.l,odd:=r6.odd,again:=r6.z,set:=(5:Int),op:=false=true}:ah)) 3)) (iP (p.r.set=5) (aH (([.ptr 0 0,.str [98,97,103]],(.node (.node .leaf (some (.prow 82 3 aM p.r.gs aT)) .leaf) (some (.blk false 60 14 [[.sy (.imm p.r.hl 1 (List UInt8) p.r.l aG),.sy (.bool p.r.odd),.sy (.prow 1 p.r.gs.length),.sy (.int 0 p.r.clients),.sy (.int 0 p.r.window),.sy (.int 0 p.r.deadline),.sy (.int 0 p.r.pace),.sy (.int 0 p.r.again),.sy (.int 0 p.r.bag),.sy (.int 4 p.r.first),.sy (.prow 2 p.r.os.length),.int 0 (.ofNat 5),.sy (.bool p.r.op),.sy (.int 0 p.r.line)]])) (.node .leaf (some (.prow 54 9 aI p.r.os aV)) .leaf)),3)) eG cE dj fun p3 r3=>aH (([.ptr 0 0],(.node (.node .leaf (some (.prow 82 3 aM p3.r.gs aT)) .leaf) (some (.blk false 60 14 [[.sy (.imm r3.hl 1 (List UInt8) r3.l aG),.sy (.bool r3.odd),.sy (.prow 1 p3.r.gs.length),.sy (.int 0 p3.r.clients),.sy (.int 0 p3.r.window),.sy (.int 0 p3.r.deadline),.sy (.int 0 p3.r.pace),.sy (.int 0 p3.r.again),.sy (.int 0 p3.r.bag),.sy (.int 4 p3.r.first),.sy (.prow 2 p3.r.os.length),.int 0 (.ofNat 5),.sy (.bool p3.r.op),.sy (.int 0 p3.r.line)]])) (.node .leaf (some (.prow 54 9 aI p3.r.os aV)) .leaf)),3)) dx cu cN fun p4 r4=>iP (¬r4.odd) (iP ((r4.l.length:Int)=(0:Int)) (K (.sy (.bool ((0:Int)<(p4.r.gs.length:Int)))) (aO ({p4.r with hl:=r4.hl,l:=r4.l,odd:=r4.odd,bag:=r4.z,set:=(6:Int),op:=false=true}:ah)) 3) (K (.sy (.bool (false=true))) (aO ({p4.r with hl:=r4.hl,l:=r4.l,odd:=r4.odd,bag:=r4.z,set:=(6:Int),op:=false=true}:ah)) 3)) (K (.sy (.bool (false=true))) (aO ({p4.r with hl:=r4.hl,l:=r4.l,odd:=r4.odd,bag:=r4.z,set:=(6:Int),op:=false=true}:ah)) 3)) (iP (p.r.set=6) (aH (([.ptr 0 0,.str [102,105,114,115,116]],(.node (.node .leaf (some (.prow 82 3 aM p.r.gs aT)) .leaf) (some (.blk false 60 14 [[.sy (.imm p.r.hl 1 (List UInt8) p.r.l aG),.sy (.bool p.r.odd),.sy (.prow 1 p.r.gs.length),.sy (.int 0 p.r.clients),.sy (.int 0 p.r.window),.sy (.int 0 p.r.deadline),.sy (.int 0 p.r.pace),.sy (.int 0 p.r.again),.sy (.int 0 p.r.bag),.sy (.int 4 p.r.first),.sy (.prow 2 p.r.os.length),.int 0 (.ofNat 6),.sy (.bool p.r.op),.sy (.int 0 p.r.line)]])) (.node .leaf (some (.prow 54 9 aI p.r.os aV)) .leaf)),3)) eG cE dj fun p1 r1=>aH (([.ptr 0 0,.int 4 (.ofNat 18446744073709551615)],(.node (.node .leaf (some (.prow 82 3 aM p1.r.gs aT)) .leaf) (some (.blk false 60 14 [[.sy (.imm r1.hl 1 (List UInt8) r1.l aG),.sy (.bool r1.odd),.sy (.prow 1 p1.r.gs.length),.sy (.int 0 p1.r.clients),.sy (.int 0 p1.r.window),.sy (.int 0 p1.r.deadline),.sy (.int 0 p1.r.pace),.sy (.int 0 p1.r.again),.sy (.int 0 p1.r.bag),.sy (.int 4 p1.r.first),.sy (.prow 2 p1.r.os.length),.int 0 (.ofNat 6),.sy (.bool p1.r.op),.sy (.int 0 p1.r.line)]])) (.node .leaf (some (.prow 54 9 aI p1.r.os aV)) .leaf)),3)) ir gA jH fun p2 r2=>iP (¬r2.odd) (iP ((r2.l.length:Int)=(0:Int)) (K (.sy (.bool ((0:Int)<(p2.r.gs.length:Int)))) (aO ({p2.r with hl:=r2.hl,l:=r2.l,odd:=r2.odd,first:=r2.z,set:=(7:Int),op:=true=true}:ah)) 3) (K (.sy (.bool (false=true))) (aO ({p2.r with hl:=r2.hl,l:=r2.l,odd:=r2.odd,first:=r2.z,set:=(7:Int),op:=true=true}:ah)) 3)) (K (.sy (.bool (false=true))) (aO ({p2.r with hl:=r2.hl,l:=r2.l,odd:=r2.odd,first:=r2.z,set:=(7:Int),op:=true=true}:ah)) 3)) (mP (False) (true)))))))))) (by kernel_rfl) ?_
 dsimp only[ew]at hpre
 obtain⟨q1,q2,q3,q4⟩:=hpre
 refine iI (fun hc1=> ?_) (fun hc1=> ?_)
 refine ay (⟨({p.r with set:=(0:Int)}:ah),([99,108,105,101,110,116,115]:List Nat)⟩:fm) rfl (by(try dsimp only[cE]);assumption) fun r13 hi2=> ?_
 dsimp only[dj]at hi2
 obtain⟨hi2,hs2⟩:=hi2
 refine ay (⟨({({p.r with set:=(0:Int)}:ah) with hl:=r13.hl,l:=r13.l,odd:=r13.odd,set:=(0:Int)}:ah)⟩:ef) rfl (by(try dsimp only[cu]);assumption) fun r14 hi3=> ?_
 dsimp only[cN]at hi3
 obtain⟨hi3,hs3⟩:=hi3
 refine iI (fun hc4=> ?_) (fun hc4=> ?_)
 refine iI (fun hc5=> ?_) (fun hc5=> ?_)
 exact be hK ⟨({({({p.r with set:=(0:Int)}:ah) with hl:=r13.hl,l:=r13.l,odd:=r13.odd,set:=(0:Int)}:ah) with hl:=r14.hl,l:=r14.l,odd:=r14.odd,clients:=r14.z,set:=(1:Int),op:=false=true}:ah),(0:Int)<(p.r.gs.length:Int)⟩
 exact be hK ⟨({({({p.r with set:=(0:Int)}:ah) with hl:=r13.hl,l:=r13.l,odd:=r13.odd,set:=(0:Int)}:ah) with hl:=r14.hl,l:=r14.l,odd:=r14.odd,clients:=r14.z,set:=(1:Int),op:=false=true}:ah),false=true⟩
 exact be hK ⟨({({({p.r with set:=(0:Int)}:ah) with hl:=r13.hl,l:=r13.l,odd:=r13.odd,set:=(0:Int)}:ah) with hl:=r14.hl,l:=r14.l,odd:=r14.odd,clients:=r14.z,set:=(1:Int),op:=false=true}:ah),false=true⟩
 refine iI (fun hc6=> ?_) (fun hc6=> ?_)
 refine ay (⟨({p.r with set:=(1:Int)}:ah),([119,105,110,100,111,119]:List Nat)⟩:fm) rfl (by(try dsimp only[cE]);assumption) fun r11 hi7=> ?_
 dsimp only[dj]at hi7
 obtain⟨hi7,hs7⟩:=hi7
 refine ay (⟨({({p.r with set:=(1:Int)}:ah) with hl:=r11.hl,l:=r11.l,odd:=r11.odd,set:=(1:Int)}:ah)⟩:ef) rfl (by(try dsimp only[cu]);assumption) fun r12 hi8=> ?_
 dsimp only[cN]at hi8
 obtain⟨hi8,hs8⟩:=hi8
 refine iI (fun hc9=> ?_) (fun hc9=> ?_)
 refine iI (fun hc10=> ?_) (fun hc10=> ?_)
 exact be hK ⟨({({({p.r with set:=(1:Int)}:ah) with hl:=r11.hl,l:=r11.l,odd:=r11.odd,set:=(1:Int)}:ah) with hl:=r12.hl,l:=r12.l,odd:=r12.odd,window:=r12.z,set:=(2:Int),op:=false=true}:ah),(0:Int)<(p.r.gs.length:Int)⟩
 exact be hK ⟨({({({p.r with set:=(1:Int)}:ah) with hl:=r11.hl,l:=r11.l,odd:=r11.odd,set:=(1:Int)}:ah) with hl:=r12.hl,l:=r12.l,odd:=r12.odd,window:=r12.z,set:=(2:Int),op:=false=true}:ah),false=true⟩
 exact be hK ⟨({({({p.r with set:=(1:Int)}:ah) with hl:=r11.hl,l:=r11.l,odd:=r11.odd,set:=(1:Int)}:ah) with hl:=r12.hl,l:=r12.l,odd:=r12.odd,window:=r12.z,set:=(2:Int),op:=false=true}:ah),false=true⟩
 refine iI (fun hc11=> ?_) (fun hc11=> ?_)
 refine ay (⟨({p.r with set:=(2:Int)}:ah),([100,101,97,100,108,105,110,101]:List Nat)⟩:fm) rfl (by(try dsimp only[cE]);assumption) fun r9 hi12=> ?_
 dsimp only[dj]at hi12
 obtain⟨hi12,hs12⟩:=hi12
 refine ay (⟨({({p.r with set:=(2:Int)}:ah) with hl:=r9.hl,l:=r9.l,odd:=r9.odd,set:=(2:Int)}:ah)⟩:ef) rfl (by(try dsimp only[cu]);assumption) fun r10 hi13=> ?_
 dsimp only[cN]at hi13
 obtain⟨hi13,hs13⟩:=hi13
 refine iI (fun hc14=> ?_) (fun hc14=> ?_)
 refine iI (fun hc15=> ?_) (fun hc15=> ?_)
 exact be hK ⟨({({({p.r with set:=(2:Int)}:ah) with hl:=r9.hl,l:=r9.l,odd:=r9.odd,set:=(2:Int)}:ah) with hl:=r10.hl,l:=r10.l,odd:=r10.odd,deadline:=r10.z,set:=(3:Int),op:=false=true}:ah),(0:Int)<(p.r.gs.length:Int)⟩
 exact be hK ⟨({({({p.r with set:=(2:Int)}:ah) with hl:=r9.hl,l:=r9.l,odd:=r9.odd,set:=(2:Int)}:ah) with hl:=r10.hl,l:=r10.l,odd:=r10.odd,deadline:=r10.z,set:=(3:Int),op:=false=true}:ah),false=true⟩
 exact be hK ⟨({({({p.r with set:=(2:Int)}:ah) with hl:=r9.hl,l:=r9.l,odd:=r9.odd,set:=(2:Int)}:ah) with hl:=r10.hl,l:=r10.l,odd:=r10.odd,deadline:=r10.z,set:=(3:Int),op:=false=true}:ah),false=true⟩
 refine iI (fun hc16=> ?_) (fun hc16=> ?_)
 refine ay (⟨({p.r with set:=(3:Int)}:ah),([112,97,99,101]:List Nat)⟩:fm) rfl (by(try dsimp only[cE]);assumption) fun r7 hi17=> ?_
 dsimp only[dj]at hi17
 obtain⟨hi17,hs17⟩:=hi17
 refine ay (⟨({({p.r with set:=(3:Int)}:ah) with hl:=r7.hl,l:=r7.l,odd:=r7.odd,set:=(3:Int)}:ah)⟩:ef) rfl (by(try dsimp only[cu]);assumption) fun r8 hi18=> ?_
 dsimp only[cN]at hi18
 obtain⟨hi18,hs18⟩:=hi18
 refine iI (fun hc19=> ?_) (fun hc19=> ?_)
 refine iI (fun hc20=> ?_) (fun hc20=> ?_)
 exact be hK ⟨({({({p.r with set:=(3:Int)}:ah) with hl:=r7.hl,l:=r7.l,odd:=r7.odd,set:=(3:Int)}:ah) with hl:=r8.hl,l:=r8.l,odd:=r8.odd,pace:=r8.z,set:=(4:Int),op:=false=true}:ah),(0:Int)<(p.r.gs.length:Int)⟩
 exact be hK ⟨({({({p.r with set:=(3:Int)}:ah) with hl:=r7.hl,l:=r7.l,odd:=r7.odd,set:=(3:Int)}:ah) with hl:=r8.hl,l:=r8.l,odd:=r8.odd,pace:=r8.z,set:=(4:Int),op:=false=true}:ah),false=true⟩
 exact be hK ⟨({({({p.r with set:=(3:Int)}:ah) with hl:=r7.hl,l:=r7.l,odd:=r7.odd,set:=(3:Int)}:ah) with hl:=r8.hl,l:=r8.l,odd:=r8.odd,pace:=r8.z,set:=(4:Int),op:=false=true}:ah),false=true⟩
 refine iI (fun hc21=> ?_) (fun hc21=> ?_)
 refine ay (⟨({p.r with set:=(4:Int)}:ah),([97,103,97,105,110]:List Nat)⟩:fm) rfl (by(try dsimp only[cE]);assumption) fun r5 hi22=> ?_
 dsimp only[dj]at hi22
 obtain⟨hi22,hs22⟩:=hi22
 refine ay (⟨({({p.r with set:=(4:Int)}:ah) with hl:=r5.hl,l:=r5.l,odd:=r5.odd,set:=(4:Int)}:ah)⟩:ef) rfl (by(try dsimp only[cu]);assumption) fun r6 hi23=> ?_
 dsimp only[cN]at hi23
 obtain⟨hi23,hs23⟩:=hi23
 refine iI (fun hc24=> ?_) (fun hc24=> ?_)
 refine iI (fun hc25=> ?_) (fun hc25=> ?_)
 exact be hK ⟨({({({p.r with set:=(4:Int)}:ah) with hl:=r5.hl,l:=r5.l,odd:=r5.odd,set:=(4:Int)}:ah) with hl:=r6.hl,l:=r6.l,odd:=r6.odd,again:=r6.z,set:=(5:Int),op:=false=true}:ah),(0:Int)<(p.r.gs.length:Int)⟩
 exact be hK ⟨({({({p.r with set:=(4:Int)}:ah) with hl:=r5.hl,l:=r5.l,odd:=r5.odd,set:=(4:Int)}:ah) with hl:=r6.hl,l:=r6.l,odd:=r6.odd,again:=r6.z,set:=(5:Int),op:=false=true}:ah),false=true⟩
 exact be hK ⟨({({({p.r with set:=(4:Int)}:ah) with hl:=r5.hl,l:=r5.l,odd:=r5.odd,set:=(4:Int)}:ah) with hl:=r6.hl,l:=r6.l,odd:=r6.odd,again:=r6.z,set:=(5:Int),op:=false=true}:ah),false=true⟩
 refine iI (fun hc26=> ?_) (fun hc26=> ?_)
 refine ay (⟨({p.r with set:=(5:Int)}:ah),([98,97,103]:List Nat)⟩:fm) rfl (by(try dsimp only[cE]);assumption) fun r3 hi27=> ?_
 dsimp only[dj]at hi27
 obtain⟨hi27,hs27⟩:=hi27
 refine ay (⟨({({p.r with set:=(5:Int)}:ah) with hl:=r3.hl,l:=r3.l,odd:=r3.odd,set:=(5:Int)}:ah)⟩:ef) rfl (by(try dsimp only[cu]);assumption) fun r4 hi28=> ?_
 dsimp only[cN]at hi28
 obtain⟨hi28,hs28⟩:=hi28
 refine iI (fun hc29=> ?_) (fun hc29=> ?_)
 refine iI (fun hc30=> ?_) (fun hc30=> ?_)
 exact be hK ⟨({({({p.r with set:=(5:Int)}:ah) with hl:=r3.hl,l:=r3.l,odd:=r3.odd,set:=(5:Int)}:ah) with hl:=r4.hl,l:=r4.l,odd:=r4.odd,bag:=r4.z,set:=(6:Int),op:=false=true}:ah),(0:Int)<(p.r.gs.length:Int)⟩
 exact be hK ⟨({({({p.r with set:=(5:Int)}:ah) with hl:=r3.hl,l:=r3.l,odd:=r3.odd,set:=(5:Int)}:ah) with hl:=r4.hl,l:=r4.l,odd:=r4.odd,bag:=r4.z,set:=(6:Int),op:=false=true}:ah),false=true⟩
 exact be hK ⟨({({({p.r with set:=(5:Int)}:ah) with hl:=r3.hl,l:=r3.l,odd:=r3.odd,set:=(5:Int)}:ah) with hl:=r4.hl,l:=r4.l,odd:=r4.odd,bag:=r4.z,set:=(6:Int),op:=false=true}:ah),false=true⟩
 refine iI (fun hc31=> ?_) (fun hc31=> ?_)
 refine ay (⟨({p.r with set:=(6:Int)}:ah),([102,105,114,115,116]:List Nat)⟩:fm) rfl (by(try dsimp only[cE]);assumption) fun r1 hi32=> ?_
 dsimp only[dj]at hi32
 obtain⟨hi32,hs32⟩:=hi32
 refine ay (⟨({({p.r with set:=(6:Int)}:ah) with hl:=r1.hl,l:=r1.l,odd:=r1.odd,set:=(6:Int)}:ah),(18446744073709551615:Int)⟩:kL) rfl (by(try dsimp only[gA]);exact⟨by assumption,by decide⟩) fun r2 hi33=> ?_
 dsimp only[jH]at hi33
 obtain⟨hi33,hs33⟩:=hi33
 refine iI (fun hc34=> ?_) (fun hc34=> ?_)
 refine iI (fun hc35=> ?_) (fun hc35=> ?_)
 exact be hK ⟨({({({p.r with set:=(6:Int)}:ah) with hl:=r1.hl,l:=r1.l,odd:=r1.odd,set:=(6:Int)}:ah) with hl:=r2.hl,l:=r2.l,odd:=r2.odd,first:=r2.z,set:=(7:Int),op:=true=true}:ah),(0:Int)<(p.r.gs.length:Int)⟩
 exact be hK ⟨({({({p.r with set:=(6:Int)}:ah) with hl:=r1.hl,l:=r1.l,odd:=r1.odd,set:=(6:Int)}:ah) with hl:=r2.hl,l:=r2.l,odd:=r2.odd,first:=r2.z,set:=(7:Int),op:=true=true}:ah),false=true⟩
 exact be hK ⟨({({({p.r with set:=(6:Int)}:ah) with hl:=r1.hl,l:=r1.l,odd:=r1.odd,set:=(6:Int)}:ah) with hl:=r2.hl,l:=r2.l,odd:=r2.odd,first:=r2.z,set:=(7:Int),op:=true=true}:ah),false=true⟩
 refine ed ?_
 rfl
noncomputable def gG:=bN oQ 1 (ck gv (dP ew mO)) 50 []
theorem gF:aZ Tryz.prog gG:=aR (cJ (f:=50) (k:=1) (aQ qt) yw (by rfl) (by rfl) Cl) qt
structure gN where
 kind:Int
 x:Int
 y:Int
 i:Int
 at_:Int
 mode:Int
 mask:Int
def Nh (o:aI) (n:gN):Prop:=er o n.kind n.x n.y n.i n.at_ n.mode n.mask
def Rt (r t:ah) (n:gN) (q:Prop):Prop:=(t.line=r.line∧t.set=r.set∧t.op=r.op∧t.gs=r.gs)∧
 (q→(t.os.length=r.os.length+1∧((∀x∈r.os,x.ps.length≤10)→∀x∈t.os,x.ps.length≤10))∧∃o',cA o'∧Nh o' n∧¬r.odd∧r.l=o'.ps.map aX∧dt t={dt r with os:=(dt r).os++[cx o']})∧
 (¬q→∀o',cA o'→Nh o' n→¬(¬r.odd∧r.l=o'.ps.map aX))
theorem Nx {o:aI} (h:cS o):o.ps.length≤10:=by
 unfold cS at h
 rcases h with h|h|h|h|h|h|h|h|h|h|h|h
 ·have:=h.2.2.2.2.2.2.2.1.2.1;omega
 all_goals
  have e:o.ps=[]:=by simp only[h]
  rw[e];simp
def yO (l l2:TX) (odd odd2:Prop) (k:Int) (ps ps2:List aB):Prop:=(∃qs,ps2=ps++qs∧(∀p∈qs,dm p)∧l=qs.map aX++l2∧(¬k=0→qs=[]))∧(odd2↔odd)∧(odd∨¬k=0∨l2=[])∧ps2.length+l2.length≤1000000∧bU l2
theorem To {l l1 l2:TX} {odd odd1 odd2:Prop} {k:Int} {ps ps2:List aB} {p:aB} {x:List UInt8} (h1:db l l1 odd odd1 x) (hl:l≠[]) (hk:k=0) (hp:dm p∧x=aX p) (h:yO l1 l2 odd1 odd2 k (ps++[p]) ps2):yO l l2 odd odd2 k ps ps2:=by
 obtain⟨rfl,rfl,h2⟩:=h1
 obtain⟨⟨qs,a1,a2,a3,_⟩,b,c,d⟩:=h
 have e:odd1↔odd:=by rw[h2];simp[hl]
 refine⟨⟨p::qs,by rw[a1];simp,?_,?_,fun q=>absurd hk q⟩,b.trans e,?_,d⟩
 ·intro y hy
  rcases List.mem_cons.1 hy with rfl|hy
  ·exact hp.1
  ·exact a2 y hy
 ·have e3:=tp hl
  rw[List.map_cons,aaJ,←a3,←hp.2]
  exact e3
 ·rw[←e];exact c
theorem CW {l:TX} {odd:Prop} {k:Int} {ps:List aB} (h:odd∨¬k=0∨(l.length:Int)=0∨¬(0:Int)<l.length) (h2:ps.length+l.length≤1000000) (h3:bU l):yO l l odd odd k ps ps:=
 ⟨⟨[],by simp,fun p hp=>(by cases hp),by simp,fun _=>rfl⟩,Iff.rfl,by
  rcases h with h|h|h|h
  ·exact .inl h
  ·exact .inr (.inl h)
  ·exact .inr (.inr (aaX (by omega)))
  ·exact .inr (.inr (aaX (by omega))),h2,h3⟩
theorem Xt {l l1:TX} {o o1:Prop} {x:List UInt8} {ps:List aB} {p:aB} (h:db l l1 o o1 x) (hl:(0:Int)<l.length) (g:ps.length+l.length≤1000000):(ps++[p]).length+l1.length≤1000000:=by
 rw[h.2.1,List.length_tail,aaC,List.length_singleton];omega
theorem Ze {l l1:TX} {o o1:Prop} {x:List UInt8} (h:db l l1 o o1 x) (hl:(0:Int)<l.length):l1.length<l.length:=by
 rw[h.2.1,List.length_tail];omega
theorem RD {l:TX} (hl:(0:Int)<l.length):l≠[]:=fun q=>by rw[q]at hl;simp at hl
theorem Xu {l l1:TX} {o o1 q:Prop} {s:List UInt8} {p:aB} (h:db l l1 o o1 s) (hl:(0:Int)<l.length) (h5:ig s q p) (h6:¬q):∃x∈l,∀p,dm p→¬x=aX p:=
 ⟨s,by rw[h.1,tp (RD hl)];exact List.mem_cons_self,h5.2 h6⟩
theorem Xs {l l1:TX} {o o1:Prop} {s:List UInt8} {R:List UInt8→Prop} (h:db l l1 o o1 s) (k:∃x∈l1,R x):∃x∈l,R x:=by
 obtain⟨x,hx,k⟩:=k
 rw[h.2.1]at hx
 exact⟨x,List.mem_of_mem_tail hx,k⟩
theorem RC {l l2:TX} {odd odd2:Prop} {k:Int} {ps ps2:List aB} (h:yO l l2 odd odd2 k ps ps2):ps2.length≤1000000:=by have:=h.2.2.2.1;omega
theorem wK {α:Type} {l:List α} (h:¬(0:Int)<l.length):l=[]:=aaX (by omega)
theorem lw {α:Type} {P Q:α→Prop} {K:α→Bool} (h:(ai fun r=>iP (P r) (K r) true)=true) (hw:∀r,Q r→P r):(ai fun r=>iP (Q r) (K r) true)=true:=am fun r=>iI (fun hz=>aq (hw r hz) (az h r)) (fun _=>rfl)
theorem tV {r t:ah} {n:gN} {l2:TX} {odd2 q:Prop} {O:aI} (hs:(t.line=r.line∧t.set=r.set∧t.op=r.op∧t.gs=r.gs)∧(t.clients=r.clients∧t.window=r.window∧t.deadline=r.deadline∧t.pace=r.pace∧t.again=r.again∧t.bag=r.bag∧t.first=r.first)∧t.os=r.os++[O])
  (hn:O.kind=n.kind∧O.x=n.x∧O.y=n.y∧O.i=n.i∧O.at_=n.at_∧O.mode=n.mode∧O.mask=n.mask) (hm:0≤n.mask∧n.mask≤4294967295)
  (hlp:yO r.l l2 r.odd odd2 n.kind [] O.ps)
  (hgr:(O.ps=[]∧O.grp=0)∨∃p,O.ps[0]?=some p∧O.grp=p.g) (hq:q↔¬odd2∧l2=[]∧cS O):Rt r t n q:=by
 obtain⟨h1,h2,h3⟩:=hs
 obtain⟨n1,n2,n3,n4,n5,n6,n7⟩:=hn
 obtain⟨⟨qs,w1,hps,hl,hk⟩,hodd,hstop,_,_⟩:=hlp
 obtain rfl:O.ps=qs:=by simpa using w1
 obtain⟨a,b⟩:=Wu (a:=dt r) (O:=O) hps hl hodd (by rw[n1];exact hstop) (by rw[n1];exact hk) hgr (by rw[n7];exact hm) hq
 have e:dt t={dt r with os:=(dt r).os++[cx O]}:=by
  obtain⟨_,e2,_,e4⟩:=h1
  obtain⟨c1,c2,c3,c4,c5,c6,c7⟩:=h2
  simp[dt,e2,e4,c1,c2,c3,c4,c5,c6,c7,h3]
 refine⟨h1,fun hq'=> ?_,fun hn' o' k1 k2=> ?_⟩
 ·refine⟨⟨by rw[h3];simp,fun k x hx=> ?_⟩,?_⟩
  ·rw[h3]at hx
   rcases List.mem_append.1 hx with hx|hx
   ·exact k x hx
   ·rw[List.mem_singleton.1 hx];exact Nx (hq.1 hq').2.2
  ·obtain⟨o',k1,k2,k3,k4,k5⟩:=a hq'
   refine⟨o',k1,?_,k3,k4,e.trans k5⟩
   unfold Nh
   rw[←n1,←n2,←n3,←n4,←n5,←n6,←n7]
   exact k2
 ·refine b hn' o' k1 ?_
  unfold Nh at k2
  rw[n1,n2,n3,n4,n5,n6,n7]
  exact k2
theorem tW {r t:ah} {n:gN} {x:List UInt8} (hs:t.line=r.line∧t.set=r.set∧t.op=r.op∧t.gs=r.gs) (hx:x∈r.l) (h:∀p,dm p→¬x=aX p):Rt r t n (false=true):=
 ⟨hs,fun q=>(by cases q),fun _=>Wv (SN:=fun o=>Nh o n) hx h⟩
def Dq:XC:=(.aft (.seq (.seq (g_ 20 [p_ 0 39 (m_ 0),p_ 1 40 (n_ 39),p_ 2 41 (f_ 0 40),p_ 3 42 (f_ 1 41),r_ 4 43 (l_ 42),p_ 5 44 (.un 0 (.t 43)),p_ 6 45 (m_ 44),au 7 46 45 true (f_ 0 3),aY 8 47 45 true (l_ 46),au 9 48 45 true (.bin 3 4 (.t 47) (i_ 0)),p_ 10 49 (.pick (.t 45) (.t 48) (.c (.bool false))),p_ 11 50 (m_ 49),au 12 51 50 true (m_ 0),au 13 52 50 true (n_ 51),au 14 53 50 true (f_ 0 52),au 15 54 50 true (f_ 0 53),aY 16 55 50 true (l_ 54),au 17 56 50 true (k_ 55),au 18 57 50 true (.bin 3 2 (.t 56) (i_ 0)),p_ 19 58 (.pick (.t 50) (.t 57) (.c (.bool false)))]) (.cond (.t 58) .skip (.exit 4))) (.block 5 (.seq (g_ 11 [p_ 0 60 (m_ 0),p_ 1 61 (n_ 60),p_ 2 62 (f_ 0 61),c_ 3 63 78 [.t 62],c_ 4 64 81 [.t 63],p_ 5 59 (m_ 64),p_ 6 65 (.ext 0 (.t 59)),p_ 7 66 (.ext 1 (.t 59)),e_ 8 6 (.al 124 [.int 1 (.ofNat 0),.int 1 (.ofNat 0),.str [],.str [],.int 0 (.ofNat 0)]),bd 9 (.st 5 (.t 6) (.t 65)),p_ 10 7 (m_ 66)]) (.seq (.seq (g_ 2 [p_ 0 67 (m_ 7),p_ 1 68 (.un 0 (.t 67))]) (.cond (.t 68) (.seq (g_ 1 [p_ 0 2 (.mv (.c (.bool false)))]) .ret) .skip)) (g_ 7 [p_ 0 69 (f_ 8 3),r_ 1 70 (l_ 69),r_ 2 71 (.ld true 5 (.t 6)),e_ 3 72 (.bsl 124 5 1 [.int 1 (.ofNat 0),.int 1 (.ofNat 0),.str [],.str [],.int 0 (.ofNat 0)] [(0,5)] [.t 71]),e_ 4 73 (.app 124 5 48 (.t 70) (.t 72)),p_ 5 74 (f_ 8 3),bd 6 (.st 1 (.t 74) (.t 73))]))))) [(0,[.can 1 [0,3]]),(1,[.can 1 [2]]),(4,[.can 1 [0,3]])])
def Dn:XC:=(.aft (.seq (.block 4 (.pre [.can 1 [0,3],.cell 1 0 8 124 5 aB aF,.can 1 [0,3]] (.inv 0 Dq))) (.seq (.seq (g_ 4 [p_ 0 75 (f_ 8 3),r_ 1 76 (l_ 75),p_ 2 77 (k_ 76),p_ 3 78 (.bin 3 2 (.t 77) (i_ 0))]) (.cond (.t 78) (g_ 7 [p_ 0 79 (f_ 8 3),r_ 1 80 (l_ 79),p_ 2 81 (.ixs 5 (.t 80) (i_ 0)),p_ 3 82 (f_ 0 81),r_ 4 83 (l_ 82),p_ 5 84 (f_ 7 3),bd 6 (.st 1 (.t 84) (.t 83))]) .skip)) (.seq (.pre [.can 1 [0,3],.upc 1 0 7,.frzc 1 0 8] (h_ 13 [p_ 0 85 (m_ 0),p_ 1 86 (m_ 0),p_ 2 87 (n_ 86),p_ 3 88 (f_ 2 87),p_ 4 89 (f_ 8 88),r_ 5 90 (l_ 89),r_ 6 91 (.ld true 9 (.t 3)),e_ 7 92 (.bsl 54 9 1 [.int 0 (.ofNat 0),.int 0 (.ofNat 0),.int 0 (.ofNat 0),.int 0 (.ofNat 0),.int 0 (.ofNat 0),.int 0 (.ofNat 0),.int 3 (.ofNat 0),.int 1 (.ofNat 0),.nilS] [(0,9)] [.t 91]),a_ 5 90 (l_ 89),e_ 8 93 (.app 54 9 80 (.t 90) (.t 92)),p_ 9 94 (n_ 85),p_ 10 95 (f_ 2 94),p_ 11 96 (f_ 8 95),bd 12 (.st 1 (.t 96) (.t 93))])) (.seq (g_ 9 [p_ 0 97 (m_ 0),p_ 1 98 (n_ 97),p_ 2 99 (f_ 0 98),c_ 3 100 82 [.t 99],p_ 4 101 (m_ 100),aY 5 102 101 true (.ld true 9 (.t 3)),il 6 103 101 true 40 [.t 102],p_ 7 104 (.pick (.t 101) (.t 103) (.c (.bool false))),p_ 8 2 (m_ 104)]) .ret)))) [(0,[.can 1 [2]]),(1,[.up 2,.can 1 [2]])])
def Ew:XF:=.mk 105 (.one 2) (.aft (.seq (g_ 1 [p_ 0 2 (.mv (.c (.bool false)))]) (.seq (g_ 8 [p_ 0 8 (m_ 0),p_ 1 9 (n_ 8),p_ 2 10 (f_ 0 9),c_ 3 11 78 [.t 10],c_ 4 12 77 [.t 11],p_ 5 13 (.bld [.int 0 (.ofNat 0),.int 0 (.ofNat 0),.int 0 (.ofNat 0),.int 0 (.ofNat 0),.int 0 (.ofNat 0),.int 0 (.ofNat 0),.int 3 (.ofNat 0),.int 1 (.ofNat 0),.nilS] [(0,1)] [.t 12]),e_ 6 3 (.al 54 [.int 0 (.ofNat 0),.int 0 (.ofNat 0),.int 0 (.ofNat 0),.int 0 (.ofNat 0),.int 0 (.ofNat 0),.int 0 (.ofNat 0),.int 3 (.ofNat 0),.int 1 (.ofNat 0),.nilS]),bd 7 (.st 9 (.t 3) (.t 13))]) (.seq (.seq (g_ 3 [p_ 0 14 (f_ 0 3),r_ 1 15 (l_ 14),p_ 2 16 (.bin 3 4 (.t 15) (.c (.int 0 (.negSucc 0))))]) (.cond (.t 16) (.seq (g_ 1 [p_ 0 2 (.mv (.c (.bool false)))]) .ret) .skip)) (.seq (.seq (g_ 3 [c_ 0 17 63 [.t 3],p_ 1 18 (k_ 17),p_ 2 19 (.mv (i_ 0))]) (.block 2 (.loop [0,2,3,5,6,7,17,18,19,20,21,22,23,24,25,26,27,28,29,30,31,32,33,34,35,36,37,38,39,40,41,42,43,44,45,46,47,48,49,50,51,52,53,54,55,56,57,58,59,60,61,62,63,64,65,66,67,68,69,70,71,72,73,74,75,76,77,78,79,80,81,82,83,84,85,86,87,88,89,90,91,92,93,94,95,96,97,98,99,100,101,102,103,104] (.seq (g_ 1 [p_ 0 20 (.bin 3 0 (.t 19) (.t 18))]) (.seq (.cond (.t 20) .skip (.exit 2)) (.seq (.block 3 (.seq (g_ 3 [p_ 0 21 (.ixs 1 (.t 17) (.t 19)),r_ 1 22 (l_ 21),p_ 2 5 (m_ 22)]) (g_ 7 [p_ 0 23 (m_ 5),p_ 1 24 (m_ 0),p_ 2 25 (n_ 24),p_ 3 26 (f_ 0 25),c_ 4 27 79 [.t 26],p_ 5 28 (n_ 23),bd 6 (.st 1 (.t 28) (.t 27))]))) (g_ 2 [p_ 0 29 (.bin 0 0 (.t 19) (i_ 1)),p_ 1 19 (m_ 29)]))))))) (.seq (.seq (g_ 3 [p_ 0 30 (f_ 0 3),r_ 1 31 (l_ 30),p_ 2 32 (.bin 3 4 (.t 31) (i_ 5))]) (.cond (.t 32) (g_ 7 [p_ 0 33 (m_ 0),p_ 1 34 (n_ 33),p_ 2 35 (f_ 0 34),c_ 3 36 80 [.t 35,.c (.int 4 (.ofNat 4294967295))],p_ 4 37 (.cnw 3 (.t 36)),p_ 5 38 (f_ 6 3),bd 6 (.st 1 (.t 38) (.t 37))]) .skip)) (.pre [.can 1 [0,3],.upc 1 0 0,.upc 1 0 1,.upc 1 0 2,.upc 1 0 3,.upc 1 0 4,.upc 1 0 5,.upc 1 0 6] (.spc 1 Dn))))))) [(0,[.up 2]),(1,[.up 2])])
theorem HF:ci Tryz.prog 48 Ew=true:=by kernel_rfl
structure ix where
 r:ah
 n:gN
 ps:List aB
structure tz where
 hl:Value
 l:List (List UInt8)
 odd:Prop
 ps:List aB
structure yn where
 hl:Value
 l:List (List UInt8)
 odd:Prop
def JK (p:ix) (r:tz):Prop:=yO p.r.l r.l p.r.odd r.odd p.n.kind p.ps r.ps
def FY (p:ix) (r:yn):Prop:=∃x∈p.r.l,∀p,dm p→¬x=aX p
noncomputable def na (p:ix):IL:=((.cons 3 (.ptr 1 0) (.cons 0 (.ptr 0 0) .nil)),(.node (.node (.node .leaf (some (.prow 54 9 aI p.r.os aV)) .leaf) (some (.blk false 54 9 [[.sy (.int 0 p.n.kind),.sy (.int 0 p.n.x),.sy (.int 0 p.n.y),.sy (.int 0 p.n.i),.sy (.int 0 p.n.at_),.sy (.int 0 p.n.mode),.sy (.int 3 p.n.mask),.int 1 (.ofNat 0),.sy (.prow 4 p.ps.length)]])) .leaf) (some (.blk false 60 14 [[.sy (.imm p.r.hl 1 (List UInt8) p.r.l aG),.sy (.bool p.r.odd),.sy (.prow 2 p.r.gs.length),.sy (.int 0 p.r.clients),.sy (.int 0 p.r.window),.sy (.int 0 p.r.deadline),.sy (.int 0 p.r.pace),.sy (.int 0 p.r.again),.sy (.int 0 p.r.bag),.sy (.int 4 p.r.first),.sy (.prow 3 p.r.os.length),.sy (.int 0 p.r.set),.sy (.bool p.r.op),.sy (.int 0 p.r.line)]])) (.node (.node .leaf (some (.prow 124 5 aB p.ps aF)) .leaf) (some (.prow 82 3 aM p.r.gs aT)) .leaf)),5)
noncomputable def zI (p:ix) (K:KC):Bool:=ac (ai fun r:tz=>iP (JK p r) (K 4 (.cons 3 (.ptr 1 0) (.cons 0 (.ptr 0 0) .nil)) (.node (.node (.node .leaf (some (.prow 54 9 aI p.r.os aV)) .leaf) (some (.blk false 54 9 [[.sy (.int 0 p.n.kind),.sy (.int 0 p.n.x),.sy (.int 0 p.n.y),.sy (.int 0 p.n.i),.sy (.int 0 p.n.at_),.sy (.int 0 p.n.mode),.sy (.int 3 p.n.mask),.int 1 (.ofNat 0),.sy (.prow 4 r.ps.length)]])) .leaf) (some (.blk false 60 14 [[.sy (.imm r.hl 1 (List UInt8) r.l aG),.sy (.bool r.odd),.sy (.prow 2 p.r.gs.length),.sy (.int 0 p.r.clients),.sy (.int 0 p.r.window),.sy (.int 0 p.r.deadline),.sy (.int 0 p.r.pace),.sy (.int 0 p.r.again),.sy (.int 0 p.r.bag),.sy (.int 4 p.r.first),.sy (.prow 3 p.r.os.length),.sy (.int 0 p.r.set),.sy (.bool p.r.op),.sy (.int 0 p.r.line)]])) (.node (.node .leaf (some (.prow 124 5 aB r.ps aF)) .leaf) (some (.prow 82 3 aM p.r.gs aT)) .leaf)) 5) true) (ai fun r:yn=>iP (FY p r) (K 1 (.cons 2 (.bool false) .nil) (aO ({p.r with hl:=r.hl,l:=r.l,odd:=r.odd}:ah)) 3) true)
def lq (p:ix):Prop:=bU p.r.l∧p.ps.length+p.r.l.length≤1000000
noncomputable def xD (p:ix) (K:KC):Bool:=ac (aC (lq p)) (zI p K)
structure ee where
 r:ah
 n:gN
structure II where
 t:ah
 q:Prop
def bP (p:ee) (r:II):Prop:=Rt p.r r.t p.n r.q
noncomputable def eF (p:ee):IL:=((.cons 3 (.ptr 1 0) (.cons 0 (.ptr 0 0) .nil)),(.node (.node (.node .leaf (some (.prow 54 9 aI p.r.os aV)) .leaf) (some (.blk false 54 9 [[.sy (.int 0 p.n.kind),.sy (.int 0 p.n.x),.sy (.int 0 p.n.y),.sy (.int 0 p.n.i),.sy (.int 0 p.n.at_),.sy (.int 0 p.n.mode),.sy (.int 3 p.n.mask),.int 1 (.ofNat 0),.nilS]])) .leaf) (some (.blk false 60 14 [[.sy (.imm p.r.hl 1 (List UInt8) p.r.l aG),.sy (.bool p.r.odd),.sy (.prow 2 p.r.gs.length),.sy (.int 0 p.r.clients),.sy (.int 0 p.r.window),.sy (.int 0 p.r.deadline),.sy (.int 0 p.r.pace),.sy (.int 0 p.r.again),.sy (.int 0 p.r.bag),.sy (.int 4 p.r.first),.sy (.prow 3 p.r.os.length),.sy (.int 0 p.r.set),.sy (.bool p.r.op),.sy (.int 0 p.r.line)]])) (.node .leaf (some (.prow 82 3 aM p.r.gs aT)) .leaf)),4)
noncomputable def zH (p:ee) (K:KC):Bool:=ai fun r:II=>iP (bP p r) (K 1 (.cons 2 (.sy (.bool r.q)) .nil) (aO r.t) 3) true
def bZ (p:ee):Prop:=bU p.r.l∧p.r.os.length≤99999∧0≤p.n.mask∧p.n.mask≤4294967295
theorem lC {p:ee} {K:KC} (hK:zH p K=true) (r:II) (h:bP p r):K 1 (.cons 2 (.sy (.bool r.q)) .nil) (aO r.t) 3=true:=aq h (az hK r)
noncomputable def Sm (p:ee) (K:KC):Bool:=ac (aC (bZ p)) (zH p K)
noncomputable def lV:gO:=fun j S M nx K=>(Bool.rec ((Bool.rec (false) (aN fun p:ee=>ac (aC ((S,M,nx)=eF p)) (Sm p K)) (Nat.beq j 1))) (aN fun p:ix=>ac (aC ((S,M,nx)=na p)) (xD p K)) (Nat.beq j 0))
def ku (p:ix):Nat:=p.r.l.length
noncomputable def Kx (s:IL) (n:Nat) (K:KC):Bool:=aN fun q=>mP (s=na q∧ku q<n) (xD q K)
theorem Ug {p q:ix} {K:KC} {s:IL} (hm:ku q<ku p:=by dsimp only[ku]<;>(exact Ze (by assumption) (by assumption))) (hp:lq q:=by dsimp only[lq]<;>(exact⟨by assumption,Xt (by assumption) (by assumption) g2⟩)) (hK:zI q K=true:=by exact(aE (lw hK0 fun r hz=>To (by assumption) (RD (by assumption)) (by assumption) ((by assumption:ig _ _ _).1 (Classical.not_not.1 (by assumption))) hz) (lw hK1 fun r hz=>Xs (by assumption) hz))) (e:s=na q:=by rfl):Kx s (ku p) K=true:=bj q (bl ⟨e,hm⟩ (bl hp hK))
theorem Sa (p:ix) (K:KC) (hpre:lq p) (hK:zI p K=true):(df (cj gG) lV 600 Dq (na p).1 (na p).2.1 (na p).2.2 (fun e S M nx=>Nat.casesOn e (aN fun q:ix=>ac (aC ((S,M,nx)=na q∧ku q<ku p)) (xD q K)) (fun e2=>K (Nat.succ e2) S M nx)))=true:=by
 refine Eq.trans (b:=(let z0:Bool:=(K 4 (.cons 3 (.ptr 1 0) (.cons 0 (.ptr 0 0) .nil)) (.node (.node (.node .leaf (some (.prow 54 9 aI p.r.os aV)) .leaf) (some (.blk false 54 9 [[.sy (.int 0 p.n.kind),.sy (.int 0 p.n.x),.sy (.int 0 p.n.y),.sy (.int 0 p.n.i),.sy (.int 0 p.n.at_),.sy (.int 0 p.n.mode),.sy (.int 3 p.n.mask),.int 1 (.ofNat 0),.sy (.prow 4 p.ps.length)]])) .leaf) (some (.blk false 60 14 [[.sy (.imm p.r.hl 1 (List UInt8) p.r.l aG),.sy (.bool p.r.odd),.sy (.prow 2 p.r.gs.length),.sy (.int 0 p.r.clients),.sy (.int 0 p.r.window),.sy (.int 0 p.r.deadline),.sy (.int 0 p.r.pace),.sy (.int 0 p.r.again),.sy (.int 0 p.r.bag),.sy (.int 4 p.r.first),.sy (.prow 3 p.r.os.length),.sy (.int 0 p.r.set),.sy (.bool p.r.op),.sy (.int 0 p.r.line)]])) (.node (.node .leaf (some (.prow 124 5 aB p.ps aF)) .leaf) (some (.prow 82 3 aM p.r.gs aT)) .leaf)) 5);iP (¬p.r.odd) (iP (p.n.kind=(0:Int)) (iP ((0:Int)<(p.r.l.length:Int)) (aH (([.ptr 0 0],(aO p.r),3)) iu cX du fun p1 r1=>aH (([.sy (.str r1.s)],.leaf,0)) qW mF ow fun p2 r2=>iP (¬r2.q) (K 1 (.cons 2 (.bool false) .nil) (aO ({p1.r with hl:=r1.hl,l:=r1.l,odd:=r1.odd}:ah)) 3) (mP (p.ps.length=p.ps.length) (aN fun m1:List aB=>mP (ie (m1.map aF) [[.sint 1 r2.p.g,.sint 1 r2.p.k,.sstr r2.p.key,.sstr r2.p.val,.sint 0 r2.p.n]]) (mP (dW 48 (p.ps.length+m1.length)) (Kx ((.cons 3 (.ptr 1 0) (.cons 0 (.ptr 0 0) .nil)),(.node (.node (.node .leaf (some (.prow 54 9 aI p1.r.os aV)) .leaf) (some (.blk false 54 9 [[.sy (.int 0 p.n.kind),.sy (.int 0 p.n.x),.sy (.int 0 p.n.y),.sy (.int 0 p.n.i),.sy (.int 0 p.n.at_),.sy (.int 0 p.n.mode),.sy (.int 3 p.n.mask),.int 1 (.ofNat 0),.sy (.prow 4 ((p.ps++m1).length))]])) .leaf) (some (.blk false 60 14 [[.sy (.imm r1.hl 1 (List UInt8) r1.l aG),.sy (.bool r1.odd),.sy (.prow 2 p1.r.gs.length),.sy (.int 0 p1.r.clients),.sy (.int 0 p1.r.window),.sy (.int 0 p1.r.deadline),.sy (.int 0 p1.r.pace),.sy (.int 0 p1.r.again),.sy (.int 0 p1.r.bag),.sy (.int 4 p1.r.first),.sy (.prow 3 p1.r.os.length),.sy (.int 0 p1.r.set),.sy (.bool p1.r.op),.sy (.int 0 p1.r.line)]])) (.node (.node .leaf (some (.prow 124 5 aB (p.ps++m1) aF)) .leaf) (some (.prow 82 3 aM p1.r.gs aT)) .leaf)),5) (ku p) K))))) z0) z0) z0)) (by kernel_rfl) ?_
 obtain⟨hK0,hKr0⟩:=aj hK
 have hK1:=hKr0
 dsimp only[lq]at hpre
 obtain⟨g1,g2⟩:=hpre
 refine iI (fun hc1=> ?_) (fun hc1=> ?_)
 refine iI (fun hc2=> ?_) (fun hc2=> ?_)
 refine iI (fun hc3=> ?_) (fun hc3=> ?_)
 refine ay (⟨p.r⟩:fL) rfl (by(try dsimp only[cX]);assumption) fun r1 hi4=> ?_
 dsimp only[du]at hi4
 obtain⟨hi4,hs4⟩:=hi4
 refine ay (⟨r1.s⟩:lM) rfl (by(try dsimp only[mF]);first|omega|exact Pj (by assumption) (by assumption)) fun r2 hi5=> ?_
 dsimp only[ow]at hi5
 refine iI (fun hc6=> ?_) (fun hc6=> ?_)
 exact aq (show∃x∈p.r.l,∀p,dm p→¬x=aX p from(by exact Xu (by assumption) (by omega) (by assumption) (by assumption))) (az hK1 (⟨r1.hl,r1.l,r1.odd⟩:yn))
 refine bi ?_
 refine bj [r2.p] ?_
 refine wI (mI (by(try dsimp only);(first|omega|(simp[dW]<;>omega))) ?_)
 exact Ug (q:=⟨({p.r with hl:=r1.hl,l:=r1.l,odd:=r1.odd}:ah),p.n,p.ps++[r2.p]⟩)
 exact aq (show yO p.r.l p.r.l p.r.odd p.r.odd p.n.kind p.ps p.ps from(by exact CW (by first|exact .inl (Classical.not_not.1 (by assumption))|exact .inl (by assumption)|exact .inr (.inl (by assumption))|exact .inr (.inr (.inr (by assumption)))) (by omega) (by assumption))) (az hK0 (⟨p.r.hl,p.r.l,p.r.odd,p.ps⟩:tz))
 exact aq (show yO p.r.l p.r.l p.r.odd p.r.odd p.n.kind p.ps p.ps from(by exact CW (by first|exact .inl (Classical.not_not.1 (by assumption))|exact .inl (by assumption)|exact .inr (.inl (by assumption))|exact .inr (.inr (.inr (by assumption)))) (by omega) (by assumption))) (az hK0 (⟨p.r.hl,p.r.l,p.r.odd,p.ps⟩:tz))
 exact aq (show yO p.r.l p.r.l p.r.odd p.r.odd p.n.kind p.ps p.ps from(by exact CW (by first|exact .inl (Classical.not_not.1 (by assumption))|exact .inl (by assumption)|exact .inr (.inl (by assumption))|exact .inr (.inr (.inr (by assumption)))) (by omega) (by assumption))) (az hK0 (⟨p.r.hl,p.r.l,p.r.odd,p.ps⟩:tz))
theorem Tu:dR Tryz.prog 105 1 lV true 0 Dq:=by
 exact gm (lf:=600) bH (aQ gF) (by rfl) na ku xD (fun b j x h=>by cases h) (fun S M nx K h=>by obtain⟨p,h⟩:=bR h;exact⟨p,(aa h).1,(aa h).2⟩) (fun p K h=>Sa p K (aa h).1 (aa h).2)
theorem RX (p:ee) (K:KC) (hpre:bZ p) (hK:zH p K=true):(df (cj gG) lV 600 Dn (eF p).1 (eF p).2.1 (eF p).2.2 K)=true:=by
 refine Eq.trans (b:=(mP ((.nilS:AV)=(.nilS:AV)) (aN fun p1:ix=>mP (((.cons 3 (.ptr 1 0) (.cons 0 (.ptr 0 0) .nil)),(.node (.node (.node .leaf (some (.prow 54 9 aI p.r.os aV)) .leaf) (some (.blk false 54 9 [[.sy (.int 0 p.n.kind),.sy (.int 0 p.n.x),.sy (.int 0 p.n.y),.sy (.int 0 p.n.i),.sy (.int 0 p.n.at_),.sy (.int 0 p.n.mode),.sy (.int 3 p.n.mask),.int 1 (.ofNat 0),.sy (.prow 4 0)]])) .leaf) (some (.blk false 60 14 [[.sy (.imm p.r.hl 1 (List UInt8) p.r.l aG),.sy (.bool p.r.odd),.sy (.prow 2 p.r.gs.length),.sy (.int 0 p.r.clients),.sy (.int 0 p.r.window),.sy (.int 0 p.r.deadline),.sy (.int 0 p.r.pace),.sy (.int 0 p.r.again),.sy (.int 0 p.r.bag),.sy (.int 4 p.r.first),.sy (.prow 3 p.r.os.length),.sy (.int 0 p.r.set),.sy (.bool p.r.op),.sy (.int 0 p.r.line)]])) (.node (.node .leaf (some (.prow 124 5 aB ([]:List aB) aF)) .leaf) (some (.prow 82 3 aM p.r.gs aT)) .leaf)),5)=na p1) (mP (lq p1) (ac (ai fun r2:tz=>iP (JK p1 r2) (iP ((0:Int)<(r2.ps.length:Int)) (mP (0≤(0:Int)∧(0:Int)<(r2.ps.length:Int)) (mP (0<r2.ps.length) (ai fun x1:aB=>iP (r2.ps[0]?=some x1) (mP (r2.ps.length=r2.ps.length) (ai fun h1:Value=>mP ((.sy (.prow 4 r2.ps.length):AV)=(.sy (.prow 4 r2.ps.length):AV)) (mP (((.prow 3 p1.r.os.length):SY)=(.prow 3 p1.r.os.length)) (mP (p1.r.os.length=p1.r.os.length) (aN fun m1:List aI=>mP (ie (m1.map aV) [[.sint 0 p1.n.kind,.sint 0 p1.n.x,.sint 0 p1.n.y,.sint 0 p1.n.i,.sint 0 p1.n.at_,.sint 0 p1.n.mode,.sint 3 p1.n.mask,.sint 1 x1.g,.imm h1 5 aB r2.ps aF]]) (mP (dW 80 (p1.r.os.length+m1.length)) (iP (¬r2.odd) (iP ((r2.l.length:Int)=(0:Int)) (aH (([.agg [.sy (.int 0 p1.n.kind),.sy (.int 0 p1.n.x),.sy (.int 0 p1.n.y),.sy (.int 0 p1.n.i),.sy (.int 0 p1.n.at_),.sy (.int 0 p1.n.mode),.sy (.int 3 p1.n.mask),.sy (.int 1 x1.g),.sy (.imm h1 5 aB r2.ps aF)]],.leaf,0)) pM jx lu fun p2 r3=>K 1 (.cons 2 (.sy (.bool r3.q)) .nil) (aO ({p1.r with hl:=r2.hl,l:=r2.l,odd:=r2.odd,os:=p1.r.os++m1}:ah)) 3) (K 1 (.cons 2 (.sy (.bool (false=true))) .nil) (aO ({p1.r with hl:=r2.hl,l:=r2.l,odd:=r2.odd,os:=p1.r.os++m1}:ah)) 3)) (K 1 (.cons 2 (.sy (.bool (false=true))) .nil) (aO ({p1.r with hl:=r2.hl,l:=r2.l,odd:=r2.odd,os:=p1.r.os++m1}:ah)) 3)))))))) true))) (mP (r2.ps.length=r2.ps.length) (ai fun h2:Value=>mP ((.sy (.prow 4 r2.ps.length):AV)=(.sy (.prow 4 r2.ps.length):AV)) (mP (((.prow 3 p1.r.os.length):SY)=(.prow 3 p1.r.os.length)) (mP (p1.r.os.length=p1.r.os.length) (aN fun m2:List aI=>mP (ie (m2.map aV) [[.sint 0 p1.n.kind,.sint 0 p1.n.x,.sint 0 p1.n.y,.sint 0 p1.n.i,.sint 0 p1.n.at_,.sint 0 p1.n.mode,.sint 3 p1.n.mask,.sint 1 0,.imm h2 5 aB r2.ps aF]]) (mP (dW 80 (p1.r.os.length+m2.length)) (iP (¬r2.odd) (iP ((r2.l.length:Int)=(0:Int)) (aH (([.agg [.sy (.int 0 p1.n.kind),.sy (.int 0 p1.n.x),.sy (.int 0 p1.n.y),.sy (.int 0 p1.n.i),.sy (.int 0 p1.n.at_),.sy (.int 0 p1.n.mode),.sy (.int 3 p1.n.mask),.sy (.int 1 0),.sy (.imm h2 5 aB r2.ps aF)]],.leaf,0)) pM jx lu fun p4 r5=>K 1 (.cons 2 (.sy (.bool r5.q)) .nil) (aO ({p1.r with hl:=r2.hl,l:=r2.l,odd:=r2.odd,os:=p1.r.os++m2}:ah)) 3) (K 1 (.cons 2 (.sy (.bool (false=true))) .nil) (aO ({p1.r with hl:=r2.hl,l:=r2.l,odd:=r2.odd,os:=p1.r.os++m2}:ah)) 3)) (K 1 (.cons 2 (.sy (.bool (false=true))) .nil) (aO ({p1.r with hl:=r2.hl,l:=r2.l,odd:=r2.odd,os:=p1.r.os++m2}:ah)) 3))))))))) true) (ai fun r1:yn=>iP (FY p1 r1) (K 1 (.cons 2 (.sy (.bool (false=true))) .nil) (aO ({p1.r with hl:=r1.hl,l:=r1.l,odd:=r1.odd}:ah)) 3) true)))))) (by kernel_rfl) ?_
 dsimp only[bZ]at hpre
 obtain⟨g1,g3,g4,g5⟩:=hpre
 refine bi ?_
 refine eX (⟨p.r,p.n,([]:List aB)⟩:ix) rfl (by(try dsimp only[lq]);exact⟨by assumption,by have:=(by assumption:bU p.r.l).1;simp;omega⟩) ?_
 refine aE ?_ ?_
 refine am (fun r2=> ?_)
 refine iI (p:=yO p.r.l r2.l p.r.odd r2.odd p.n.kind ([]:List aB) r2.ps) (fun hi1=> ?_) (fun _=>rfl)
 refine iI (fun hc2=> ?_) (fun hc2=> ?_)
 refine bC (ed ?_)
 refine am (fun x1=> ?_)
 refine iI (fun hi3=> ?_) (fun _=>rfl)
 refine bi ?_
 refine am (fun h1=> ?_)
 refine bi (bi (bi ?_))
 refine bj [(⟨p.n.kind,p.n.x,p.n.y,p.n.i,p.n.at_,p.n.mode,p.n.mask,x1.g,h1,r2.ps⟩:aI)] ?_
 refine wI ?_
 refine mI (by(try dsimp only);(first|omega|(simp[dW]<;>omega))) ?_
 refine iI (fun hc4=> ?_) (fun hc4=> ?_)
 refine iI (fun hc5=> ?_) (fun hc5=> ?_)
 refine ay (⟨⟨p.n.kind,p.n.x,p.n.y,p.n.i,p.n.at_,p.n.mode,p.n.mask,x1.g,h1,r2.ps⟩⟩:mn) rfl (by(try dsimp only[jx]);first|omega|exact RC (by assumption)) fun r3 hi6=> ?_
 dsimp only[lu]at hi6
 exact lC hK ⟨({p.r with hl:=r2.hl,l:=r2.l,odd:=r2.odd,os:=p.r.os++[(⟨p.n.kind,p.n.x,p.n.y,p.n.i,p.n.at_,p.n.mode,p.n.mask,x1.g,h1,r2.ps⟩:aI)]}:ah),r3.q⟩ (by dsimp only[bP]<;>(first|exact tV ⟨⟨rfl,rfl,rfl,rfl⟩,⟨rfl,rfl,rfl,rfl,rfl,rfl,rfl⟩,rfl⟩ ⟨rfl,rfl,rfl,rfl,rfl,rfl,rfl⟩ ⟨g4,g5⟩ (by assumption) (by first|exact .inr ⟨_,by assumption,rfl⟩|exact .inl ⟨wK (by assumption),rfl⟩) (by first|exact yR (by assumption) (by assumption) (by assumption)|exact yQ (by assumption)|exact yP (by assumption))|(obtain⟨x,hx,hz⟩:=(by assumption:∃x∈p.r.l,∀p,dm p→¬x=aX p);exact tW ⟨rfl,rfl,rfl,rfl⟩ hx hz)))
 exact lC hK ⟨({p.r with hl:=r2.hl,l:=r2.l,odd:=r2.odd,os:=p.r.os++[(⟨p.n.kind,p.n.x,p.n.y,p.n.i,p.n.at_,p.n.mode,p.n.mask,x1.g,h1,r2.ps⟩:aI)]}:ah),false=true⟩ (by dsimp only[bP]<;>(first|exact tV ⟨⟨rfl,rfl,rfl,rfl⟩,⟨rfl,rfl,rfl,rfl,rfl,rfl,rfl⟩,rfl⟩ ⟨rfl,rfl,rfl,rfl,rfl,rfl,rfl⟩ ⟨g4,g5⟩ (by assumption) (by first|exact .inr ⟨_,by assumption,rfl⟩|exact .inl ⟨wK (by assumption),rfl⟩) (by first|exact yR (by assumption) (by assumption) (by assumption)|exact yQ (by assumption)|exact yP (by assumption))|(obtain⟨x,hx,hz⟩:=(by assumption:∃x∈p.r.l,∀p,dm p→¬x=aX p);exact tW ⟨rfl,rfl,rfl,rfl⟩ hx hz)))
 exact lC hK ⟨({p.r with hl:=r2.hl,l:=r2.l,odd:=r2.odd,os:=p.r.os++[(⟨p.n.kind,p.n.x,p.n.y,p.n.i,p.n.at_,p.n.mode,p.n.mask,x1.g,h1,r2.ps⟩:aI)]}:ah),false=true⟩ (by dsimp only[bP]<;>(first|exact tV ⟨⟨rfl,rfl,rfl,rfl⟩,⟨rfl,rfl,rfl,rfl,rfl,rfl,rfl⟩,rfl⟩ ⟨rfl,rfl,rfl,rfl,rfl,rfl,rfl⟩ ⟨g4,g5⟩ (by assumption) (by first|exact .inr ⟨_,by assumption,rfl⟩|exact .inl ⟨wK (by assumption),rfl⟩) (by first|exact yR (by assumption) (by assumption) (by assumption)|exact yQ (by assumption)|exact yP (by assumption))|(obtain⟨x,hx,hz⟩:=(by assumption:∃x∈p.r.l,∀p,dm p→¬x=aX p);exact tW ⟨rfl,rfl,rfl,rfl⟩ hx hz)))
 refine bi ?_
 refine am (fun h2=> ?_)
 refine bi (bi (bi ?_))
 refine bj [(⟨p.n.kind,p.n.x,p.n.y,p.n.i,p.n.at_,p.n.mode,p.n.mask,0,h2,r2.ps⟩:aI)] ?_
 refine wI ?_
 refine mI (by(try dsimp only);(first|omega|(simp[dW]<;>omega))) ?_
 refine iI (fun hc7=> ?_) (fun hc7=> ?_)
 refine iI (fun hc8=> ?_) (fun hc8=> ?_)
 refine ay (⟨⟨p.n.kind,p.n.x,p.n.y,p.n.i,p.n.at_,p.n.mode,p.n.mask,(0:Int),h2,r2.ps⟩⟩:mn) rfl (by(try dsimp only[jx]);first|omega|exact RC (by assumption)) fun r5 hi9=> ?_
 dsimp only[lu]at hi9
 exact lC hK ⟨({p.r with hl:=r2.hl,l:=r2.l,odd:=r2.odd,os:=p.r.os++[(⟨p.n.kind,p.n.x,p.n.y,p.n.i,p.n.at_,p.n.mode,p.n.mask,0,h2,r2.ps⟩:aI)]}:ah),r5.q⟩ (by dsimp only[bP]<;>(first|exact tV ⟨⟨rfl,rfl,rfl,rfl⟩,⟨rfl,rfl,rfl,rfl,rfl,rfl,rfl⟩,rfl⟩ ⟨rfl,rfl,rfl,rfl,rfl,rfl,rfl⟩ ⟨g4,g5⟩ (by assumption) (by first|exact .inr ⟨_,by assumption,rfl⟩|exact .inl ⟨wK (by assumption),rfl⟩) (by first|exact yR (by assumption) (by assumption) (by assumption)|exact yQ (by assumption)|exact yP (by assumption))|(obtain⟨x,hx,hz⟩:=(by assumption:∃x∈p.r.l,∀p,dm p→¬x=aX p);exact tW ⟨rfl,rfl,rfl,rfl⟩ hx hz)))
 exact lC hK ⟨({p.r with hl:=r2.hl,l:=r2.l,odd:=r2.odd,os:=p.r.os++[(⟨p.n.kind,p.n.x,p.n.y,p.n.i,p.n.at_,p.n.mode,p.n.mask,0,h2,r2.ps⟩:aI)]}:ah),false=true⟩ (by dsimp only[bP]<;>(first|exact tV ⟨⟨rfl,rfl,rfl,rfl⟩,⟨rfl,rfl,rfl,rfl,rfl,rfl,rfl⟩,rfl⟩ ⟨rfl,rfl,rfl,rfl,rfl,rfl,rfl⟩ ⟨g4,g5⟩ (by assumption) (by first|exact .inr ⟨_,by assumption,rfl⟩|exact .inl ⟨wK (by assumption),rfl⟩) (by first|exact yR (by assumption) (by assumption) (by assumption)|exact yQ (by assumption)|exact yP (by assumption))|(obtain⟨x,hx,hz⟩:=(by assumption:∃x∈p.r.l,∀p,dm p→¬x=aX p);exact tW ⟨rfl,rfl,rfl,rfl⟩ hx hz)))
 exact lC hK ⟨({p.r with hl:=r2.hl,l:=r2.l,odd:=r2.odd,os:=p.r.os++[(⟨p.n.kind,p.n.x,p.n.y,p.n.i,p.n.at_,p.n.mode,p.n.mask,0,h2,r2.ps⟩:aI)]}:ah),false=true⟩ (by dsimp only[bP]<;>(first|exact tV ⟨⟨rfl,rfl,rfl,rfl⟩,⟨rfl,rfl,rfl,rfl,rfl,rfl,rfl⟩,rfl⟩ ⟨rfl,rfl,rfl,rfl,rfl,rfl,rfl⟩ ⟨g4,g5⟩ (by assumption) (by first|exact .inr ⟨_,by assumption,rfl⟩|exact .inl ⟨wK (by assumption),rfl⟩) (by first|exact yR (by assumption) (by assumption) (by assumption)|exact yQ (by assumption)|exact yP (by assumption))|(obtain⟨x,hx,hz⟩:=(by assumption:∃x∈p.r.l,∀p,dm p→¬x=aX p);exact tW ⟨rfl,rfl,rfl,rfl⟩ hx hz)))
 refine am (fun r1=> ?_)
 refine iI (p:=∃x∈p.r.l,∀p,dm p→¬x=aX p) (fun hi10=> ?_) (fun _=>rfl)
 exact lC hK ⟨({p.r with hl:=r1.hl,l:=r1.l,odd:=r1.odd}:ah),false=true⟩ (by dsimp only[bP]<;>(first|exact tV ⟨⟨rfl,rfl,rfl,rfl⟩,⟨rfl,rfl,rfl,rfl,rfl,rfl,rfl⟩,rfl⟩ ⟨rfl,rfl,rfl,rfl,rfl,rfl,rfl⟩ ⟨g4,g5⟩ (by assumption) (by first|exact .inr ⟨_,by assumption,rfl⟩|exact .inl ⟨wK (by assumption),rfl⟩) (by first|exact yR (by assumption) (by assumption) (by assumption)|exact yQ (by assumption)|exact yP (by assumption))|(obtain⟨x,hx,hz⟩:=(by assumption:∃x∈p.r.l,∀p,dm p→¬x=aX p);exact tW ⟨rfl,rfl,rfl,rfl⟩ hx hz)))
theorem Tp:dR Tryz.prog 105 1 lV false 1 Dn:=by
 refine Ld (lf:=600) bH (aQ gF) (by rfl) (fun b j x h=>(cG Tu (fun h=>(by cases h)) h)) (fun S M nx K h=> ?_)
 obtain⟨p,h⟩:=bR h
 obtain⟨e,h9⟩:=aa h
 clear h
 have e1:S=(eF p).1:=congrArg Prod.fst e
 have e2:M=(eF p).2.1:=congrArg (fun x=>x.2.1) e
 have e3:nx=(eF p).2.2:=congrArg (fun x=>x.2.2) e
 subst e1;subst e2;subst e3
 exact RX p K (aa h9).1 (aa h9).2
structure lL where
 r:ah
structure AF where
 t:ah
 q:Prop
def ov (p:lL) (r:AF):Prop:=(r.t.line=p.r.line∧r.t.set=p.r.set∧r.t.op=p.r.op∧r.t.gs=p.r.gs)∧((r.q→(r.t.os.length=p.r.os.length+1∧((∀x∈p.r.os,x.ps.length≤10)→∀x∈r.t.os,x.ps.length≤10))∧fJ (dt p.r) p.r.l (dt r.t))∧(¬r.q→∀b,¬fJ (dt p.r) p.r.l b))
noncomputable def qV (p:lL):IE:=([.ptr 0 0],(aO p.r),3)
noncomputable def uj (p:lL) (K:KE):Bool:=ai fun r:AF=>iP (ov p r) (K (.sy (.bool r.q)) (aO r.t) 3) true
def mE (p:lL):Prop:=bU p.r.l∧¬p.r.odd∧p.r.os.length≤99999
theorem dD {p:lL} {K:KE} (hK:uj p K=true) (r:AF) (h:ov p r:=by dsimp only[ov]<;>(first|(have hro:=(by assumption:Rt _ _ _ _);first|exact⟨hro.1,Zb (by assumption) (by assumption) (by assumption) (by assumption) q2 hro.2⟩|exact⟨hro.1,Za (by assumption) (by assumption) (by assumption) (by assumption) q2 hro.2⟩|exact⟨hro.1,YZ (by assumption) (by assumption) (by assumption) q2 hro.2⟩|exact⟨hro.1,YY (by assumption) (by assumption) (by assumption) q2 hro.2⟩|exact⟨hro.1,YX (by assumption) (by assumption) (by assumption) q2 hro.2⟩|exact⟨hro.1,YW (by assumption) (by assumption) (by assumption) (by assumption) (by assumption) q2 hro.2⟩|exact⟨hro.1,YV (by assumption) (by assumption) (by assumption) q2 hro.2⟩|exact⟨hro.1,YU (by assumption) (by assumption) (by assumption) (by assumption) q2 hro.2⟩|exact⟨hro.1,YT (by assumption) (by assumption) (by assumption) q2 hro.2⟩|exact⟨hro.1,YS (by assumption) (by assumption) (by assumption) q2 hro.2⟩|exact⟨hro.1,WM (by assumption) (by assumption) (by assumption) q2 hro.2⟩|exact⟨hro.1,WL (by assumption) (by assumption) (by assumption) q2 hro.2⟩)|exact⟨⟨rfl,rfl,rfl,rfl⟩,fun q=>(by cases q),fun _=>SS (by assumption) (Un (by assumption) (by assumption) (by assumption) (by assumption) (by assumption) (by assumption) (by assumption) (by assumption) (by assumption) (by assumption) (by assumption) (by assumption))⟩)):K (.sy (.bool r.q)) (aO r.t) 3=true:=aq h (az hK r)
theorem MR (p:lL) (K:KE) (hpre:mE p) (hK:uj p K=true):(cw 1 (cj gG) lV 600 Ew (qV p).1 (qV p).2.1 (qV p).2.2 K)=true:=by
 refine Eq.trans (b:=(aH (([.ptr 0 0],(aO p.r),3)) iu cX du fun p1 r1=>iP ((([105,110,118,111,107,101]:List Nat).map aaY)=r1.s) (aH (([.ptr 0 0],(aO ({p1.r with hl:=r1.hl,l:=r1.l,odd:=r1.odd}:ah)),3)) bL aJ aL fun p2 r2=>aH (([.ptr 0 0],(aO ({p2.r with hl:=r2.hl,l:=r2.l,odd:=r2.odd}:ah)),3)) bL aJ aL fun p3 r3=>aH (((.cons 3 (.ptr 1 0) (.cons 0 (.ptr 0 0) .nil)),(.node (.node (.node .leaf (some (.prow 54 9 aI p3.r.os aV)) .leaf) (some (.blk false 54 9 [[.sy (.int 0 0),.sy (.int 0 r2.z),.sy (.int 0 0),.sy (.int 0 0),.sy (.int 0 0),.sy (.int 0 r3.z),.sy (.int 3 0),.int 1 (.ofNat 0),.nilS]])) .leaf) (some (.blk false 60 14 [[.sy (.imm r3.hl 1 (List UInt8) r3.l aG),.sy (.bool r3.odd),.sy (.prow 2 p3.r.gs.length),.sy (.int 0 p3.r.clients),.sy (.int 0 p3.r.window),.sy (.int 0 p3.r.deadline),.sy (.int 0 p3.r.pace),.sy (.int 0 p3.r.again),.sy (.int 0 p3.r.bag),.sy (.int 4 p3.r.first),.sy (.prow 3 p3.r.os.length),.sy (.int 0 p3.r.set),.sy (.bool p3.r.op),.sy (.int 0 p3.r.line)]])) (.node .leaf (some (.prow 82 3 aM p3.r.gs aT)) .leaf)),4)) eF bZ bP fun p4 r4=>K (.sy (.bool r4.q)) (aO r4.t) 3) (iP ((([115,108,97,121]:List Nat).map aaY)=r1.s) (aH (([.ptr 0 0],(aO ({p1.r with hl:=r1.hl,l:=r1.l,odd:=r1.odd}:ah)),3)) bL aJ aL fun p5 r5=>aH (([.ptr 0 0],(aO ({p5.r with hl:=r5.hl,l:=r5.l,odd:=r5.odd}:ah)),3)) bL aJ aL fun p6 r6=>aH (((.cons 3 (.ptr 1 0) (.cons 0 (.ptr 0 0) .nil)),(.node (.node (.node .leaf (some (.prow 54 9 aI p6.r.os aV)) .leaf) (some (.blk false 54 9 [[.sy (.int 0 1),.sy (.int 0 r5.z),.sy (.int 0 r6.z),.sy (.int 0 0),.sy (.int 0 0),.sy (.int 0 0),.sy (.int 3 0),.int 1 (.ofNat 0),.nilS]])) .leaf) (some (.blk false 60 14 [[.sy (.imm r6.hl 1 (List UInt8) r6.l aG),.sy (.bool r6.odd),.sy (.prow 2 p6.r.gs.length),.sy (.int 0 p6.r.clients),.sy (.int 0 p6.r.window),.sy (.int 0 p6.r.deadline),.sy (.int 0 p6.r.pace),.sy (.int 0 p6.r.again),.sy (.int 0 p6.r.bag),.sy (.int 4 p6.r.first),.sy (.prow 3 p6.r.os.length),.sy (.int 0 p6.r.set),.sy (.bool p6.r.op),.sy (.int 0 p6.r.line)]])) (.node .leaf (some (.prow 82 3 aM p6.r.gs aT)) .leaf)),4)) eF bZ bP fun p7 r7=>K (.sy (.bool r7.q)) (aO r7.t) 3) (iP ((([100,101,108,105,118,101,114]:List Nat).map aaY)=r1.s) (aH (([.ptr 0 0],(aO ({p1.r with hl:=r1.hl,l:=r1.l,odd:=r1.odd}:ah)),3)) bL aJ aL fun p8 r8=>aH (((.cons 3 (.ptr 1 0) (.cons 0 (.ptr 0 0) .nil)),(.node (.node (.node .leaf (some (.prow 54 9 aI p8.r.os aV)) .leaf) (some (.blk false 54 9 [[.sy (.int 0 2),.sy (.int 0 0),.sy (.int 0 0),.sy (.int 0 r8.z),.sy (.int 0 0),.sy (.int 0 0),.sy (.int 3 0),.int 1 (.ofNat 0),.nilS]])) .leaf) (some (.blk false 60 14 [[.sy (.imm r8.hl 1 (List UInt8) r8.l aG),.sy (.bool r8.odd),.sy (.prow 2 p8.r.gs.length),.sy (.int 0 p8.r.clients),.sy (.int 0 p8.r.window),.sy (.int 0 p8.r.deadline),.sy (.int 0 p8.r.pace),.sy (.int 0 p8.r.again),.sy (.int 0 p8.r.bag),.sy (.int 4 p8.r.first),.sy (.prow 3 p8.r.os.length),.sy (.int 0 p8.r.set),.sy (.bool p8.r.op),.sy (.int 0 p8.r.line)]])) (.node .leaf (some (.prow 82 3 aM p8.r.gs aT)) .leaf)),4)) eF bZ bP fun p9 r9=>K (.sy (.bool r9.q)) (aO r9.t) 3) (iP ((([100,114,111,112]:List Nat).map aaY)=r1.s) (aH (([.ptr 0 0],(aO ({p1.r with hl:=r1.hl,l:=r1.l,odd:=r1.odd}:ah)),3)) bL aJ aL fun p10 r10=>aH (((.cons 3 (.ptr 1 0) (.cons 0 (.ptr 0 0) .nil)),(.node (.node (.node .leaf (some (.prow 54 9 aI p10.r.os aV)) .leaf) (some (.blk false 54 9 [[.sy (.int 0 3),.sy (.int 0 0),.sy (.int 0 0),.sy (.int 0 r10.z),.sy (.int 0 0),.sy (.int 0 0),.sy (.int 3 0),.int 1 (.ofNat 0),.nilS]])) .leaf) (some (.blk false 60 14 [[.sy (.imm r10.hl 1 (List UInt8) r10.l aG),.sy (.bool r10.odd),.sy (.prow 2 p10.r.gs.length),.sy (.int 0 p10.r.clients),.sy (.int 0 p10.r.window),.sy (.int 0 p10.r.deadline),.sy (.int 0 p10.r.pace),.sy (.int 0 p10.r.again),.sy (.int 0 p10.r.bag),.sy (.int 4 p10.r.first),.sy (.prow 3 p10.r.os.length),.sy (.int 0 p10.r.set),.sy (.bool p10.r.op),.sy (.int 0 p10.r.line)]])) (.node .leaf (some (.prow 82 3 aM p10.r.gs aT)) .leaf)),4)) eF bZ bP fun p11 r11=>K (.sy (.bool r11.q)) (aO r11.t) 3) (iP ((([116,119,105,99,101]:List Nat).map aaY)=r1.s) (aH (([.ptr 0 0],(aO ({p1.r with hl:=r1.hl,l:=r1.l,odd:=r1.odd}:ah)),3)) bL aJ aL fun p12 r12=>aH (((.cons 3 (.ptr 1 0) (.cons 0 (.ptr 0 0) .nil)),(.node (.node (.node .leaf (some (.prow 54 9 aI p12.r.os aV)) .leaf) (some (.blk false 54 9 [[.sy (.int 0 4),.sy (.int 0 0),.sy (.int 0 0),.sy (.int 0 r12.z),.sy (.int 0 0),.sy (.int 0 0),.sy (.int 3 0),.int 1 (.ofNat 0),.nilS]])) .leaf) (some (.blk false 60 14 [[.sy (.imm r12.hl 1 (List UInt8) r12.l aG),.sy (.bool r12.odd),.sy (.prow 2 p12.r.gs.length),.sy (.int 0 p12.r.clients),.sy (.int 0 p12.r.window),.sy (.int 0 p12.r.deadline),.sy (.int 0 p12.r.pace),.sy (.int 0 p12.r.again),.sy (.int 0 p12.r.bag),.sy (.int 4 p12.r.first),.sy (.prow 3 p12.r.os.length),.sy (.int 0 p12.r.set),.sy (.bool p12.r.op),.sy (.int 0 p12.r.line)]])) (.node .leaf (some (.prow 82 3 aM p12.r.gs aT)) .leaf)),4)) eF bZ bP fun p13 r13=>K (.sy (.bool r13.q)) (aO r13.t) 3) (iP (vk=r1.s) (aH (([.ptr 0 0],(aO ({p1.r with hl:=r1.hl,l:=r1.l,odd:=r1.odd}:ah)),3)) bL aJ aL fun p14 r14=>aH (([.ptr 0 0],(aO ({p14.r with hl:=r14.hl,l:=r14.l,odd:=r14.odd}:ah)),3)) bL aJ aL fun p15 r15=>aH (([.ptr 0 0,.int 4 (.ofNat 4294967295)],(aO ({p15.r with hl:=r15.hl,l:=r15.l,odd:=r15.odd}:ah)),3)) pK jv lr fun p16 r16=>aH (((.cons 3 (.ptr 1 0) (.cons 0 (.ptr 0 0) .nil)),(.node (.node (.node .leaf (some (.prow 54 9 aI p16.r.os aV)) .leaf) (some (.blk false 54 9 [[.sy (.int 0 5),.sy (.int 0 0),.sy (.int 0 0),.sy (.int 0 r14.z),.sy (.int 0 r15.z),.sy (.int 0 0),.sy (.int 3 ((aw 3).wrap r16.z)),.int 1 (.ofNat 0),.nilS]])) .leaf) (some (.blk false 60 14 [[.sy (.imm r16.hl 1 (List UInt8) r16.l aG),.sy (.bool r16.odd),.sy (.prow 2 p16.r.gs.length),.sy (.int 0 p16.r.clients),.sy (.int 0 p16.r.window),.sy (.int 0 p16.r.deadline),.sy (.int 0 p16.r.pace),.sy (.int 0 p16.r.again),.sy (.int 0 p16.r.bag),.sy (.int 4 p16.r.first),.sy (.prow 3 p16.r.os.length),.sy (.int 0 p16.r.set),.sy (.bool p16.r.op),.sy (.int 0 p16.r.line)]])) (.node .leaf (some (.prow 82 3 aM p16.r.gs aT)) .leaf)),4)) eF bZ bP fun p17 r17=>K (.sy (.bool r17.q)) (aO r17.t) 3) (iP ((([116,105,99,107]:List Nat).map aaY)=r1.s) (aH (([.ptr 0 0],(aO ({p1.r with hl:=r1.hl,l:=r1.l,odd:=r1.odd}:ah)),3)) bL aJ aL fun p18 r18=>aH (((.cons 3 (.ptr 1 0) (.cons 0 (.ptr 0 0) .nil)),(.node (.node (.node .leaf (some (.prow 54 9 aI p18.r.os aV)) .leaf) (some (.blk false 54 9 [[.sy (.int 0 6),.sy (.int 0 r18.z),.sy (.int 0 0),.sy (.int 0 0),.sy (.int 0 0),.sy (.int 0 0),.sy (.int 3 0),.int 1 (.ofNat 0),.nilS]])) .leaf) (some (.blk false 60 14 [[.sy (.imm r18.hl 1 (List UInt8) r18.l aG),.sy (.bool r18.odd),.sy (.prow 2 p18.r.gs.length),.sy (.int 0 p18.r.clients),.sy (.int 0 p18.r.window),.sy (.int 0 p18.r.deadline),.sy (.int 0 p18.r.pace),.sy (.int 0 p18.r.again),.sy (.int 0 p18.r.bag),.sy (.int 4 p18.r.first),.sy (.prow 3 p18.r.os.length),.sy (.int 0 p18.r.set),.sy (.bool p18.r.op),.sy (.int 0 p18.r.line)]])) (.node .leaf (some (.prow 82 3 aM p18.r.gs aT)) .leaf)),4)) eF bZ bP fun p19 r19=>K (.sy (.bool r19.q)) (aO r19.t) 3) (iP ((([115,117,115,112,101,99,116]:List Nat).map aaY)=r1.s) (aH (([.ptr 0 0],(aO ({p1.r with hl:=r1.hl,l:=r1.l,odd:=r1.odd}:ah)),3)) bL aJ aL fun p20 r20=>aH (([.ptr 0 0],(aO ({p20.r with hl:=r20.hl,l:=r20.l,odd:=r20.odd}:ah)),3)) bL aJ aL fun p21 r21=>aH (((.cons 3 (.ptr 1 0) (.cons 0 (.ptr 0 0) .nil)),(.node (.node (.node .leaf (some (.prow 54 9 aI p21.r.os aV)) .leaf) (some (.blk false 54 9 [[.sy (.int 0 7),.sy (.int 0 r20.z),.sy (.int 0 r21.z),.sy (.int 0 0),.sy (.int 0 0),.sy (.int 0 0),.sy (.int 3 0),.int 1 (.ofNat 0),.nilS]])) .leaf) (some (.blk false 60 14 [[.sy (.imm r21.hl 1 (List UInt8) r21.l aG),.sy (.bool r21.odd),.sy (.prow 2 p21.r.gs.length),.sy (.int 0 p21.r.clients),.sy (.int 0 p21.r.window),.sy (.int 0 p21.r.deadline),.sy (.int 0 p21.r.pace),.sy (.int 0 p21.r.again),.sy (.int 0 p21.r.bag),.sy (.int 4 p21.r.first),.sy (.prow 3 p21.r.os.length),.sy (.int 0 p21.r.set),.sy (.bool p21.r.op),.sy (.int 0 p21.r.line)]])) (.node .leaf (some (.prow 82 3 aM p21.r.gs aT)) .leaf)),4)) eF bZ bP fun p22 r22=>K (.sy (.bool r22.q)) (aO r22.t) 3) (iP ((([99,114,97,115,104]:List Nat).map aaY)=r1.s) (aH (([.ptr 0 0],(aO ({p1.r with hl:=r1.hl,l:=r1.l,odd:=r1.odd}:ah)),3)) bL aJ aL fun p23 r23=>aH (((.cons 3 (.ptr 1 0) (.cons 0 (.ptr 0 0) .nil)),(.node (.node (.node .leaf (some (.prow 54 9 aI p23.r.os aV)) .leaf) (some (.blk false 54 9 [[.sy (.int 0 8),.sy (.int 0 r23.z),.sy (.int 0 0),.sy (.int 0 0),.sy (.int 0 0),.sy (.int 0 0),.sy (.int 3 0),.int 1 (.ofNat 0),.nilS]])) .leaf) (some (.blk false 60 14 [[.sy (.imm r23.hl 1 (List UInt8) r23.l aG),.sy (.bool r23.odd),.sy (.prow 2 p23.r.gs.length),.sy (.int 0 p23.r.clients),.sy (.int 0 p23.r.window),.sy (.int 0 p23.r.deadline),.sy (.int 0 p23.r.pace),.sy (.int 0 p23.r.again),.sy (.int 0 p23.r.bag),.sy (.int 4 p23.r.first),.sy (.prow 3 p23.r.os.length),.sy (.int 0 p23.r.set),.sy (.bool p23.r.op),.sy (.int 0 p23.r.line)]])) (.node .leaf (some (.prow 82 3 aM p23.r.gs aT)) .leaf)),4)) eF bZ bP fun p24 r24=>K (.sy (.bool r24.q)) (aO r24.t) 3) (iP ((([114,101,115,116,97,114,116]:List Nat).map aaY)=r1.s) (aH (([.ptr 0 0],(aO ({p1.r with hl:=r1.hl,l:=r1.l,odd:=r1.odd}:ah)),3)) bL aJ aL fun p25 r25=>aH (((.cons 3 (.ptr 1 0) (.cons 0 (.ptr 0 0) .nil)),(.node (.node (.node .leaf (some (.prow 54 9 aI p25.r.os aV)) .leaf) (some (.blk false 54 9 [[.sy (.int 0 9),.sy (.int 0 r25.z),.sy (.int 0 0),.sy (.int 0 0),.sy (.int 0 0),.sy (.int 0 0),.sy (.int 3 0),.int 1 (.ofNat 0),.nilS]])) .leaf) (some (.blk false 60 14 [[.sy (.imm r25.hl 1 (List UInt8) r25.l aG),.sy (.bool r25.odd),.sy (.prow 2 p25.r.gs.length),.sy (.int 0 p25.r.clients),.sy (.int 0 p25.r.window),.sy (.int 0 p25.r.deadline),.sy (.int 0 p25.r.pace),.sy (.int 0 p25.r.again),.sy (.int 0 p25.r.bag),.sy (.int 4 p25.r.first),.sy (.prow 3 p25.r.os.length),.sy (.int 0 p25.r.set),.sy (.bool p25.r.op),.sy (.int 0 p25.r.line)]])) (.node .leaf (some (.prow 82 3 aM p25.r.gs aT)) .leaf)),4)) eF bZ bP fun p26 r26=>K (.sy (.bool r26.q)) (aO r26.t) 3) (iP ((([106,111,105,110]:List Nat).map aaY)=r1.s) (aH (([.ptr 0 0],(aO ({p1.r with hl:=r1.hl,l:=r1.l,odd:=r1.odd}:ah)),3)) bL aJ aL fun p27 r27=>aH (((.cons 3 (.ptr 1 0) (.cons 0 (.ptr 0 0) .nil)),(.node (.node (.node .leaf (some (.prow 54 9 aI p27.r.os aV)) .leaf) (some (.blk false 54 9 [[.sy (.int 0 10),.sy (.int 0 r27.z),.sy (.int 0 0),.sy (.int 0 0),.sy (.int 0 0),.sy (.int 0 0),.sy (.int 3 0),.int 1 (.ofNat 0),.nilS]])) .leaf) (some (.blk false 60 14 [[.sy (.imm r27.hl 1 (List UInt8) r27.l aG),.sy (.bool r27.odd),.sy (.prow 2 p27.r.gs.length),.sy (.int 0 p27.r.clients),.sy (.int 0 p27.r.window),.sy (.int 0 p27.r.deadline),.sy (.int 0 p27.r.pace),.sy (.int 0 p27.r.again),.sy (.int 0 p27.r.bag),.sy (.int 4 p27.r.first),.sy (.prow 3 p27.r.os.length),.sy (.int 0 p27.r.set),.sy (.bool p27.r.op),.sy (.int 0 p27.r.line)]])) (.node .leaf (some (.prow 82 3 aM p27.r.gs aT)) .leaf)),4)) eF bZ bP fun p28 r28=>K (.sy (.bool r28.q)) (aO r28.t) 3) (iP ((([108,101,97,118,101]:List Nat).map aaY)=r1.s) (aH (([.ptr 0 0],(aO ({p1.r with hl:=r1.hl,l:=r1.l,odd:=r1.odd}:ah)),3)) bL aJ aL fun p29 r29=>aH (((.cons 3 (.ptr 1 0) (.cons 0 (.ptr 0 0) .nil)),(.node (.node (.node .leaf (some (.prow 54 9 aI p29.r.os aV)) .leaf) (some (.blk false 54 9 [[.sy (.int 0 11),.sy (.int 0 r29.z),.sy (.int 0 0),.sy (.int 0 0),.sy (.int 0 0),.sy (.int 0 0),.sy (.int 3 0),.int 1 (.ofNat 0),.nilS]])) .leaf) (some (.blk false 60 14 [[.sy (.imm r29.hl 1 (List UInt8) r29.l aG),.sy (.bool r29.odd),.sy (.prow 2 p29.r.gs.length),.sy (.int 0 p29.r.clients),.sy (.int 0 p29.r.window),.sy (.int 0 p29.r.deadline),.sy (.int 0 p29.r.pace),.sy (.int 0 p29.r.again),.sy (.int 0 p29.r.bag),.sy (.int 4 p29.r.first),.sy (.prow 3 p29.r.os.length),.sy (.int 0 p29.r.set),.sy (.bool p29.r.op),.sy (.int 0 p29.r.line)]])) (.node .leaf (some (.prow 82 3 aM p29.r.gs aT)) .leaf)),4)) eF bZ bP fun p30 r30=>K (.sy (.bool r30.q)) (aO r30.t) 3) (K (.sy (.bool (false=true))) (aO ({p1.r with hl:=r1.hl,l:=r1.l,odd:=r1.odd}:ah)) 3)))))))))))))) (by kernel_rfl) ?_
 dsimp only[mE]at hpre
 obtain⟨q1,q2,q3⟩:=hpre
 refine ay (⟨p.r⟩:fL) rfl (by(try dsimp only[cX]);assumption) fun r1 hi1=> ?_
 dsimp only[du]at hi1
 obtain⟨hi1,hs1⟩:=hi1
 refine iI (fun hc2=> ?_) (fun hc2=> ?_)
 refine ay (⟨({p.r with hl:=r1.hl,l:=r1.l,odd:=r1.odd}:ah)⟩:bx) rfl (by(try dsimp only[aJ]);assumption) fun r2 hi3=> ?_
 dsimp only[aL]at hi3
 obtain⟨hi3,hs3⟩:=hi3
 refine ay (⟨({({p.r with hl:=r1.hl,l:=r1.l,odd:=r1.odd}:ah) with hl:=r2.hl,l:=r2.l,odd:=r2.odd}:ah)⟩:bx) rfl (by(try dsimp only[aJ]);assumption) fun r3 hi4=> ?_
 dsimp only[aL]at hi4
 obtain⟨hi4,hs4⟩:=hi4
 refine ay (⟨({({({p.r with hl:=r1.hl,l:=r1.l,odd:=r1.odd}:ah) with hl:=r2.hl,l:=r2.l,odd:=r2.odd}:ah) with hl:=r3.hl,l:=r3.l,odd:=r3.odd}:ah),⟨(0:Int),r2.z,(0:Int),(0:Int),(0:Int),r3.z,(0:Int)⟩⟩:ee) rfl (by(try dsimp only[bZ]);first|exact⟨by assumption,by omega,by omega,by omega⟩|exact⟨by assumption,by omega,iY _⟩) fun r4 hi5=> ?_
 dsimp only[bP]at hi5
 exact dD hK ⟨r4.t,r4.q⟩
 refine iI (fun hc6=> ?_) (fun hc6=> ?_)
 refine ay (⟨({p.r with hl:=r1.hl,l:=r1.l,odd:=r1.odd}:ah)⟩:bx) rfl (by(try dsimp only[aJ]);assumption) fun r5 hi7=> ?_
 dsimp only[aL]at hi7
 obtain⟨hi7,hs7⟩:=hi7
 refine ay (⟨({({p.r with hl:=r1.hl,l:=r1.l,odd:=r1.odd}:ah) with hl:=r5.hl,l:=r5.l,odd:=r5.odd}:ah)⟩:bx) rfl (by(try dsimp only[aJ]);assumption) fun r6 hi8=> ?_
 dsimp only[aL]at hi8
 obtain⟨hi8,hs8⟩:=hi8
 refine ay (⟨({({({p.r with hl:=r1.hl,l:=r1.l,odd:=r1.odd}:ah) with hl:=r5.hl,l:=r5.l,odd:=r5.odd}:ah) with hl:=r6.hl,l:=r6.l,odd:=r6.odd}:ah),⟨(1:Int),r5.z,r6.z,(0:Int),(0:Int),(0:Int),(0:Int)⟩⟩:ee) rfl (by(try dsimp only[bZ]);first|exact⟨by assumption,by omega,by omega,by omega⟩|exact⟨by assumption,by omega,iY _⟩) fun r7 hi9=> ?_
 dsimp only[bP]at hi9
 exact dD hK ⟨r7.t,r7.q⟩
 refine iI (fun hc10=> ?_) (fun hc10=> ?_)
 refine ay (⟨({p.r with hl:=r1.hl,l:=r1.l,odd:=r1.odd}:ah)⟩:bx) rfl (by(try dsimp only[aJ]);assumption) fun r8 hi11=> ?_
 dsimp only[aL]at hi11
 obtain⟨hi11,hs11⟩:=hi11
 refine ay (⟨({({p.r with hl:=r1.hl,l:=r1.l,odd:=r1.odd}:ah) with hl:=r8.hl,l:=r8.l,odd:=r8.odd}:ah),⟨(2:Int),(0:Int),(0:Int),r8.z,(0:Int),(0:Int),(0:Int)⟩⟩:ee) rfl (by(try dsimp only[bZ]);first|exact⟨by assumption,by omega,by omega,by omega⟩|exact⟨by assumption,by omega,iY _⟩) fun r9 hi12=> ?_
 dsimp only[bP]at hi12
 exact dD hK ⟨r9.t,r9.q⟩
 refine iI (fun hc13=> ?_) (fun hc13=> ?_)
 refine ay (⟨({p.r with hl:=r1.hl,l:=r1.l,odd:=r1.odd}:ah)⟩:bx) rfl (by(try dsimp only[aJ]);assumption) fun r10 hi14=> ?_
 dsimp only[aL]at hi14
 obtain⟨hi14,hs14⟩:=hi14
 refine ay (⟨({({p.r with hl:=r1.hl,l:=r1.l,odd:=r1.odd}:ah) with hl:=r10.hl,l:=r10.l,odd:=r10.odd}:ah),⟨(3:Int),(0:Int),(0:Int),r10.z,(0:Int),(0:Int),(0:Int)⟩⟩:ee) rfl (by(try dsimp only[bZ]);first|exact⟨by assumption,by omega,by omega,by omega⟩|exact⟨by assumption,by omega,iY _⟩) fun r11 hi15=> ?_
 dsimp only[bP]at hi15
 exact dD hK ⟨r11.t,r11.q⟩
 refine iI (fun hc16=> ?_) (fun hc16=> ?_)
 refine ay (⟨({p.r with hl:=r1.hl,l:=r1.l,odd:=r1.odd}:ah)⟩:bx) rfl (by(try dsimp only[aJ]);assumption) fun r12 hi17=> ?_
 dsimp only[aL]at hi17
 obtain⟨hi17,hs17⟩:=hi17
 refine ay (⟨({({p.r with hl:=r1.hl,l:=r1.l,odd:=r1.odd}:ah) with hl:=r12.hl,l:=r12.l,odd:=r12.odd}:ah),⟨(4:Int),(0:Int),(0:Int),r12.z,(0:Int),(0:Int),(0:Int)⟩⟩:ee) rfl (by(try dsimp only[bZ]);first|exact⟨by assumption,by omega,by omega,by omega⟩|exact⟨by assumption,by omega,iY _⟩) fun r13 hi18=> ?_
 dsimp only[bP]at hi18
 exact dD hK ⟨r13.t,r13.q⟩
 refine iI (fun hc19=> ?_) (fun hc19=> ?_)
 refine ay (⟨({p.r with hl:=r1.hl,l:=r1.l,odd:=r1.odd}:ah)⟩:bx) rfl (by(try dsimp only[aJ]);assumption) fun r14 hi20=> ?_
 dsimp only[aL]at hi20
 obtain⟨hi20,hs20⟩:=hi20
 refine ay (⟨({({p.r with hl:=r1.hl,l:=r1.l,odd:=r1.odd}:ah) with hl:=r14.hl,l:=r14.l,odd:=r14.odd}:ah)⟩:bx) rfl (by(try dsimp only[aJ]);assumption) fun r15 hi21=> ?_
 dsimp only[aL]at hi21
 obtain⟨hi21,hs21⟩:=hi21
 refine ay (⟨({({({p.r with hl:=r1.hl,l:=r1.l,odd:=r1.odd}:ah) with hl:=r14.hl,l:=r14.l,odd:=r14.odd}:ah) with hl:=r15.hl,l:=r15.l,odd:=r15.odd}:ah),(4294967295:Int)⟩:mh) rfl (by(try dsimp only[jv]);exact⟨by assumption,by decide⟩) fun r16 hi22=> ?_
 dsimp only[lr]at hi22
 obtain⟨hi22,hs22⟩:=hi22
 refine ay (⟨({({({({p.r with hl:=r1.hl,l:=r1.l,odd:=r1.odd}:ah) with hl:=r14.hl,l:=r14.l,odd:=r14.odd}:ah) with hl:=r15.hl,l:=r15.l,odd:=r15.odd}:ah) with hl:=r16.hl,l:=r16.l,odd:=r16.odd}:ah),⟨(5:Int),(0:Int),(0:Int),r14.z,r15.z,(0:Int),(aw 3).wrap r16.z⟩⟩:ee) rfl (by(try dsimp only[bZ]);first|exact⟨by assumption,by omega,by omega,by omega⟩|exact⟨by assumption,by omega,iY _⟩) fun r17 hi23=> ?_
 dsimp only[bP]at hi23
 exact dD hK ⟨r17.t,r17.q⟩
 refine iI (fun hc24=> ?_) (fun hc24=> ?_)
 refine ay (⟨({p.r with hl:=r1.hl,l:=r1.l,odd:=r1.odd}:ah)⟩:bx) rfl (by(try dsimp only[aJ]);assumption) fun r18 hi25=> ?_
 dsimp only[aL]at hi25
 obtain⟨hi25,hs25⟩:=hi25
 refine ay (⟨({({p.r with hl:=r1.hl,l:=r1.l,odd:=r1.odd}:ah) with hl:=r18.hl,l:=r18.l,odd:=r18.odd}:ah),⟨(6:Int),r18.z,(0:Int),(0:Int),(0:Int),(0:Int),(0:Int)⟩⟩:ee) rfl (by(try dsimp only[bZ]);first|exact⟨by assumption,by omega,by omega,by omega⟩|exact⟨by assumption,by omega,iY _⟩) fun r19 hi26=> ?_
 dsimp only[bP]at hi26
 exact dD hK ⟨r19.t,r19.q⟩
 refine iI (fun hc27=> ?_) (fun hc27=> ?_)
 refine ay (⟨({p.r with hl:=r1.hl,l:=r1.l,odd:=r1.odd}:ah)⟩:bx) rfl (by(try dsimp only[aJ]);assumption) fun r20 hi28=> ?_
 dsimp only[aL]at hi28
 obtain⟨hi28,hs28⟩:=hi28
 refine ay (⟨({({p.r with hl:=r1.hl,l:=r1.l,odd:=r1.odd}:ah) with hl:=r20.hl,l:=r20.l,odd:=r20.odd}:ah)⟩:bx) rfl (by(try dsimp only[aJ]);assumption) fun r21 hi29=> ?_
 dsimp only[aL]at hi29
 obtain⟨hi29,hs29⟩:=hi29
 refine ay (⟨({({({p.r with hl:=r1.hl,l:=r1.l,odd:=r1.odd}:ah) with hl:=r20.hl,l:=r20.l,odd:=r20.odd}:ah) with hl:=r21.hl,l:=r21.l,odd:=r21.odd}:ah),⟨(7:Int),r20.z,r21.z,(0:Int),(0:Int),(0:Int),(0:Int)⟩⟩:ee) rfl (by(try dsimp only[bZ]);first|exact⟨by assumption,by omega,by omega,by omega⟩|exact⟨by assumption,by omega,iY _⟩) fun r22 hi30=> ?_
 dsimp only[bP]at hi30
 exact dD hK ⟨r22.t,r22.q⟩
 refine iI (fun hc31=> ?_) (fun hc31=> ?_)
 refine ay (⟨({p.r with hl:=r1.hl,l:=r1.l,odd:=r1.odd}:ah)⟩:bx) rfl (by(try dsimp only[aJ]);assumption) fun r23 hi32=> ?_
 dsimp only[aL]at hi32
 obtain⟨hi32,hs32⟩:=hi32
 refine ay (⟨({({p.r with hl:=r1.hl,l:=r1.l,odd:=r1.odd}:ah) with hl:=r23.hl,l:=r23.l,odd:=r23.odd}:ah),⟨(8:Int),r23.z,(0:Int),(0:Int),(0:Int),(0:Int),(0:Int)⟩⟩:ee) rfl (by(try dsimp only[bZ]);first|exact⟨by assumption,by omega,by omega,by omega⟩|exact⟨by assumption,by omega,iY _⟩) fun r24 hi33=> ?_
 dsimp only[bP]at hi33
 exact dD hK ⟨r24.t,r24.q⟩
 refine iI (fun hc34=> ?_) (fun hc34=> ?_)
 refine ay (⟨({p.r with hl:=r1.hl,l:=r1.l,odd:=r1.odd}:ah)⟩:bx) rfl (by(try dsimp only[aJ]);assumption) fun r25 hi35=> ?_
 dsimp only[aL]at hi35
 obtain⟨hi35,hs35⟩:=hi35
 refine ay (⟨({({p.r with hl:=r1.hl,l:=r1.l,odd:=r1.odd}:ah) with hl:=r25.hl,l:=r25.l,odd:=r25.odd}:ah),⟨(9:Int),r25.z,(0:Int),(0:Int),(0:Int),(0:Int),(0:Int)⟩⟩:ee) rfl (by(try dsimp only[bZ]);first|exact⟨by assumption,by omega,by omega,by omega⟩|exact⟨by assumption,by omega,iY _⟩) fun r26 hi36=> ?_
 dsimp only[bP]at hi36
 exact dD hK ⟨r26.t,r26.q⟩
 refine iI (fun hc37=> ?_) (fun hc37=> ?_)
 refine ay (⟨({p.r with hl:=r1.hl,l:=r1.l,odd:=r1.odd}:ah)⟩:bx) rfl (by(try dsimp only[aJ]);assumption) fun r27 hi38=> ?_
 dsimp only[aL]at hi38
 obtain⟨hi38,hs38⟩:=hi38
 refine ay (⟨({({p.r with hl:=r1.hl,l:=r1.l,odd:=r1.odd}:ah) with hl:=r27.hl,l:=r27.l,odd:=r27.odd}:ah),⟨(10:Int),r27.z,(0:Int),(0:Int),(0:Int),(0:Int),(0:Int)⟩⟩:ee) rfl (by(try dsimp only[bZ]);first|exact⟨by assumption,by omega,by omega,by omega⟩|exact⟨by assumption,by omega,iY _⟩) fun r28 hi39=> ?_
 dsimp only[bP]at hi39
 exact dD hK ⟨r28.t,r28.q⟩
 refine iI (fun hc40=> ?_) (fun hc40=> ?_)
 refine ay (⟨({p.r with hl:=r1.hl,l:=r1.l,odd:=r1.odd}:ah)⟩:bx) rfl (by(try dsimp only[aJ]);assumption) fun r29 hi41=> ?_
 dsimp only[aL]at hi41
 obtain⟨hi41,hs41⟩:=hi41
 refine ay (⟨({({p.r with hl:=r1.hl,l:=r1.l,odd:=r1.odd}:ah) with hl:=r29.hl,l:=r29.l,odd:=r29.odd}:ah),⟨(11:Int),r29.z,(0:Int),(0:Int),(0:Int),(0:Int),(0:Int)⟩⟩:ee) rfl (by(try dsimp only[bZ]);first|exact⟨by assumption,by omega,by omega,by omega⟩|exact⟨by assumption,by omega,iY _⟩) fun r30 hi42=> ?_
 dsimp only[bP]at hi42
 exact dD hK ⟨r30.t,r30.q⟩
 exact dD hK ⟨({p.r with hl:=r1.hl,l:=r1.l,odd:=r1.odd}:ah),false=true⟩
noncomputable def uE:=bN gG 1 (ck qV (dP mE uj)) 48 []
theorem vt:aZ Tryz.prog uE:=aR (cM (f:=48) (k:=1) (lp:=lV) (lf:=600) bH (aQ gF) HF (by rfl) (fun b j x h=>(cG Tp (fun h=>(by cases h)) h)) fun p K h=>MR p K (aa h).1 (aa h).2) gF
def mA (r:ah):Prop:=r.gs.length≤4∧(r.op↔r.set=7)∧(0≤r.set∧r.set≤7)∧∀x∈r.os,x.ps.length≤10
def CJ (r t:ah) (s:List UInt8) (q:Prop):Prop:=t.line=r.line∧(q→(mA t∧t.os.length≤r.os.length+1)∧step (dt r) s (dt t))∧(¬q→∀b,¬step (dt r) s b)
def oW (r:ah) (h:Value) (l:TX):ah:={r with hl:=h,l:=l,odd:=false=true}
theorem WR {r t:ah} {s:List UInt8} {q:Prop} (hr:mA r) (ho:r.op)
  (hp:(t.line=r.line∧t.set=r.set∧t.op=r.op∧t.gs=r.gs)∧(q→(t.os.length=r.os.length+1∧((∀x∈r.os,x.ps.length≤10)→∀x∈t.os,x.ps.length≤10))∧fJ (dt r) (wds 32 s) (dt t))∧(¬q→∀b,¬fJ (dt r) (wds 32 s) b)):CJ r t s q:=by
 obtain⟨⟨h1,h2,h3,h4⟩,h5,h6⟩:=hp
 obtain⟨r1,r2,r3,r4⟩:=hr
 have hs:(dt r).set=7:=r2.1 ho
 refine⟨h1,fun hq=> ?_,fun hq b hb=> ?_⟩
 ·obtain⟨⟨a1,a2⟩,a3⟩:=h5 hq
  exact⟨⟨⟨by rw[h4];exact r1,by rw[h3,h2];exact r2,by rw[h2];exact r3,a2 r4⟩,by omega⟩,.inr (.inr ⟨hs,a3⟩)⟩
 ·rcases hb with⟨e,_⟩|⟨e,_⟩|⟨e,hb⟩
  ·omega
  ·omega
  ·exact h6 hq b hb
theorem MJ {s x:List UInt8} (h:(wds 32 s)[0]?=some x):(wds 32 s).headD []=x:=(xX h).symm
theorem SV {r t:ah} {s x:List UInt8} {q:Prop} (hr:mA r) (hs:r.set=0) (hx:(wds 32 s)[0]?=some x) (hg:x=qE)
  (hp:(t.line=r.line∧t.op=r.op∧t.os=r.os∧t.set=r.set)∧(q→Hs (dt r) (wds 32 s) (dt t))∧(¬q→∀b,¬Hs (dt r) (wds 32 s) b)):CJ r t s q:=by
 obtain⟨⟨h1,h2,h3,h4⟩,h5,h6⟩:=hp
 obtain⟨r1,r2,r3,r4⟩:=hr
 have hs':(dt r).set=0:=hs
 refine⟨h1,fun hq=> ?_,fun hq b hb=> ?_⟩
 ·have a:=h5 hq
  obtain⟨a1,g,a2,a3,a4⟩:=h5 hq
  have e:t.gs=r.gs++[g]:=congrArg St.gs a4
  have a1:r.gs.length<4:=a1
  exact⟨⟨⟨by rw[e,aaC,List.length_singleton];omega,by rw[h2,h4];exact r2,by rw[h4];exact r3,by rw[h3];exact r4⟩,by rw[h3];omega⟩,.inl ⟨hs',a⟩⟩
 ·rcases hb with⟨e,hb⟩|⟨e,_,z,_,e2,_⟩|⟨e,hb⟩
  ·exact h6 hq b hb
  ·have e3:=MJ hx
   rw[e2,hs',hg]at e3
   exact absurd (show xU 0=qE from e3) (by decide)
  ·omega
theorem SU {r t:ah} {s:List UInt8} {q:Prop} (hr:mA r) (ho:¬r.op) (hs:r.set=0→¬(wds 32 s).headD []=qE)
  (hp:(t.line=r.line∧t.os=r.os∧t.gs=r.gs∧t.set=r.set+1∧(t.op↔t.set=7))∧(q→pY (dt r) (wds 32 s) (dt t))∧(¬q→∀b,¬pY (dt r) (wds 32 s) b)):CJ r t s q:=by
 obtain⟨⟨h1,h2,h3,h4,h5⟩,h6,h7⟩:=hp
 obtain⟨r1,r2,r3,r4⟩:=hr
 have hn:¬r.set=7:=fun e=>ho (r2.2 e)
 have hst:(dt r).set=r.set:=rfl
 refine⟨h1,fun hq=> ?_,fun hq b hb=> ?_⟩
 ·exact⟨⟨⟨by rw[h3];exact r1,h5,by omega,by rw[h2];exact r4⟩,by rw[h2];omega⟩,.inr (.inl ⟨by omega,h6 hq⟩)⟩
 ·rcases hb with⟨e,_,g,_,e2,_⟩|⟨e,hb⟩|⟨e,hb⟩
  ·refine hs (by omega) ?_
   rw[e2];rfl
  ·exact h7 hq b hb
  ·omega
theorem fF:¬(false=true):=fun q=>by cases q
theorem WB {r:ah} (hr:mA r) (ho:¬r.op):0≤r.set∧r.set≤6:=by
 obtain⟨r1,r2,r3,r4⟩:=hr
 have hn:¬r.set=7:=fun e=>ho (r2.2 e)
 omega
theorem OH (s:List UInt8):wds 32 s≠[]:=Txt.wds_ne 32 s
def Of:XF:=.mk 38 (.one 4) (.aft (.seq (g_ 1 [p_ 0 4 (.mv (.c (.bool false)))]) (.seq (g_ 7 [p_ 0 5 (m_ 0),p_ 1 6 (m_ 1),c_ 2 7 47 [.t 6,.c (.str [32])],p_ 3 8 (.bld [.nilS,.bool false] [(0,1)] [.t 7]),p_ 4 9 (n_ 5),p_ 5 10 (f_ 0 9),bd 6 (.st 2 (.t 10) (.t 8))]) (.seq (.pre [.can 1 [0],.upc 0 0 1] (.block 2 (.seq (g_ 5 [p_ 0 12 (m_ 0),p_ 1 13 (n_ 12),p_ 2 14 (f_ 12 13),r_ 3 15 (l_ 14),p_ 4 11 (m_ 15)]) (.cond (.t 11) (.seq (g_ 3 [p_ 0 16 (m_ 0),c_ 1 17 48 [.t 16],p_ 2 4 (m_ 17)]) .ret) (.seq (g_ 16 [p_ 0 19 (m_ 0),p_ 1 20 (n_ 19),p_ 2 21 (f_ 11 20),r_ 3 22 (l_ 21),p_ 4 23 (.bin 3 4 (.t 22) (i_ 0)),p_ 5 24 (m_ 23),au 6 25 24 true (m_ 0),au 7 26 24 true (n_ 25),au 8 27 24 true (f_ 0 26),au 9 28 24 true (f_ 0 27),aY 10 29 24 true (l_ 28),au 11 30 24 true (.ixs 1 (.t 29) (i_ 0)),aY 12 31 24 true (l_ 30),au 13 32 24 true (.bin 5 0 (.t 31) (.c (.str [103,114,111,117,112]))),p_ 14 33 (.pick (.t 24) (.t 32) (.c (.bool false))),p_ 15 18 (m_ 33)]) (.cond (.t 18) (.seq (g_ 3 [p_ 0 34 (m_ 0),c_ 1 35 49 [.t 34],p_ 2 4 (m_ 35)]) .ret) .skip)))))) (.seq (g_ 3 [p_ 0 36 (m_ 0),c_ 1 37 50 [.t 36],p_ 2 4 (m_ 37)]) .ret)))) [(0,[.up 4]),(1,[.up 4])])
theorem Oe:ci Tryz.prog 18 Of=true:=by kernel_rfl
structure vj where
 r:ah
 s:List UInt8
structure MC where
 t:ah
 q:Prop
def FW (p:vj) (r:MC):Prop:=CJ p.r r.t p.s r.q
noncomputable def Cf (p:vj):IE:=([.ptr 0 0,.sy (.str p.s)],(aO p.r),3)
noncomputable def xM (p:vj) (K:KE):Bool:=ai fun r:MC=>iP (FW p r) (K (.sy (.bool r.q)) (aO r.t) 3) true
def xJ (p:vj):Prop:=p.s.length≤90000∧mA p.r∧p.r.os.length≤99999
theorem xZ {p:vj} {K:KE} (hK:xM p K=true) (r:MC) (h:FW p r:=by dsimp only[FW]<;>(first|exact WR g2 (by assumption) (by assumption)|exact SV g2 (by assumption) (by assumption) (by assumption) (by assumption)|exact SU g2 (by assumption) (fun e=>by first|(exfalso;omega)|(rw[MJ (by assumption)];assumption)) (by assumption))):K (.sy (.bool r.q)) (aO r.t) 3=true:=aq h (az hK r)
theorem Uq (p:vj) (K:KE) (hpre:xJ p) (hK:xM p K=true):(cw 1 (cj uE) dC 600 Of (Cf p).1 (Cf p).2.1 (Cf p).2.2 K)=true:=by
 refine Eq.trans (b:=(ac (Nat.blt 32 256) (mP (p.s.length≤1000000) (ai fun h1:Value=>iP (p.r.op) (aH (([.ptr 0 0],(aO ({p.r with hl:=h1,l:=(Txt.wds (aaY 32) p.s),odd:=false=true}:ah)),3)) qV mE ov fun p1 r1=>K (.sy (.bool r1.q)) (aO r1.t) 3) (iP (p.r.set=(0:Int)) (mP (0≤(0:Int)∧(0:Int)<((Txt.wds (aaY 32) p.s).length:Int)) (ai fun x1:(List UInt8)=>iP ((Txt.wds (aaY 32) p.s)[0]?=some x1) (iP (x1=KZ) (aH (([.ptr 0 0],(aO ({p.r with hl:=h1,l:=(Txt.wds (aaY 32) p.s),odd:=false=true}:ah)),3)) li jc jK fun p2 r2=>K (.sy (.bool r2.q)) (aO r2.t) 3) (aH (([.ptr 0 0],(aO ({p.r with hl:=h1,l:=(Txt.wds (aaY 32) p.s),odd:=false=true}:ah)),3)) gv ew eN fun p3 r3=>K (.sy (.bool r3.q)) (aO r3.t) 3)) true)) (aH (([.ptr 0 0],(aO ({p.r with hl:=h1,l:=(Txt.wds (aaY 32) p.s),odd:=false=true}:ah)),3)) gv ew eN fun p4 r4=>K (.sy (.bool r4.q)) (aO r4.t) 3)))))) (by kernel_rfl) ?_
 dsimp only[xJ]at hpre
 obtain⟨g1,g2,g3⟩:=hpre
 have hw:bU (Txt.wds (aaY 32) p.s):=DH (by omega)
 have hw0:0<(Txt.wds (aaY 32) p.s).length:=List.length_pos_iff.2 (OH p.s)
 have g4:=g2.1
 have g5:=fF
 have g6:=fun z=>WB g2 z
 refine aE (rfl) ?_
 refine ed ?_
 refine am (fun h1=> ?_)
 refine iI (fun hc1=> ?_) (fun hc1=> ?_)
 refine ay (⟨({p.r with hl:=h1,l:=(Txt.wds (aaY 32) p.s),odd:=false=true}:ah)⟩:lL) rfl (by(try dsimp only[mE]);exact⟨by assumption,by assumption,by omega⟩) fun r1 hi2=> ?_
 dsimp only[ov]at hi2
 exact xZ hK ⟨r1.t,r1.q⟩
 refine iI (fun hc3=> ?_) (fun hc3=> ?_)
 refine bC ?_
 refine am (fun x1=> ?_)
 refine iI (fun hi4=> ?_) (fun _=>rfl)
 refine iI (fun hc5=> ?_) (fun hc5=> ?_)
 refine ay (⟨({p.r with hl:=h1,l:=(Txt.wds (aaY 32) p.s),odd:=false=true}:ah)⟩:ic) rfl (by(try dsimp only[jc]);exact⟨by assumption,by assumption,by omega⟩) fun r2 hi6=> ?_
 dsimp only[jK]at hi6
 exact xZ hK ⟨r2.t,r2.q⟩
 refine ay (⟨({p.r with hl:=h1,l:=(Txt.wds (aaY 32) p.s),odd:=false=true}:ah)⟩:eJ) rfl (by(try dsimp only[ew]);exact⟨by assumption,by assumption,by first|omega|exact(g6 (by assumption)).1,by first|omega|exact(g6 (by assumption)).2⟩) fun r3 hi7=> ?_
 dsimp only[eN]at hi7
 exact xZ hK ⟨r3.t,r3.q⟩
 refine ay (⟨({p.r with hl:=h1,l:=(Txt.wds (aaY 32) p.s),odd:=false=true}:ah)⟩:eJ) rfl (by(try dsimp only[ew]);exact⟨by assumption,by assumption,by first|omega|exact(g6 (by assumption)).1,by first|omega|exact(g6 (by assumption)).2⟩) fun r4 hi8=> ?_
 dsimp only[eN]at hi8
 exact xZ hK ⟨r4.t,r4.q⟩
theorem NL:bS Tryz.prog 18 1 (ck Cf (dP xJ xM)):=(cJ (f:=18) (k:=1) (aQ vt) Oe (by rfl) (by rfl) Uq)
noncomputable def xR:=bN uE 1 (ck Cf (dP xJ xM)) 18 []
theorem uG:aZ Tryz.prog xR:=aR NL vt
end Go.Proofs.Tryz
