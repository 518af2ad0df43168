/- Definitions and lemmas of the proof, without a condition of their own. -/
import Derived.Test.YtacomabmhnodlaaGreatDoorB4
import Derived.KernelRfl
open List renaming append_assoc→acJ,flatten_cons→acG,length_append→acA,length_cons→acB,length_map→acC,length_nil→acD,map_cons→acH,mem_of_getElem?→acF,nil_append→acK
open Option.some renaming inj→acY
open Prod.mk renaming injEq→ac9
namespace Go.Proofs.Tryz
open Go.Proofs.YtacomabmhnodlaaGreatDoor (zf nD wL lT qX nE pt)
open Go Go.RowKit Go.Sy
open Go.Eng hiding am
set_option maxRecDepth 1000000
set_option linter.unusedVariables false
set_option maxHeartbeats 4000000
def BQ:XC:=(.aft (.seq (.seq (g_ 12 [p_ 0 5 (m_ 4),p_ 1 6 (m_ 0),p_ 2 7 (k_ 6),p_ 3 8 (.bin 3 0 (.t 5) (.t 7)),p_ 4 9 (m_ 8),aj 5 10 9 true (m_ 4),aj 6 11 9 true (.bin 3 0 (.t 10) (i_ 300)),p_ 7 12 (.pick (.t 9) (.t 11) (.c (.bool false))),p_ 8 13 (m_ 12),aj 9 14 13 true (m_ 3),aj 10 15 13 true (.bin 3 3 (.t 14) (i_ 0)),p_ 11 16 (.pick (.t 13) (.t 15) (.c (.bool false)))]) (.cond (.t 16) .skip (.exit 2))) (.seq (.block 3 (h_ 19 [p_ 0 19 (m_ 3),p_ 1 20 (.bin 0 1 (.t 19) (i_ 3)),p_ 2 21 (m_ 0),p_ 3 22 (m_ 4),p_ 4 23 (.ixs 5 (.t 21) (.t 22)),p_ 5 24 (f_ 2 23),r_ 6 25 (l_ 24),p_ 7 26 (.len 0 (.t 25)),p_ 8 27 (.mx false (.t 26) (i_ 4000)),p_ 9 28 (.bin 0 1 (.t 20) (.t 27)),p_ 10 29 (m_ 0),p_ 11 30 (m_ 4),p_ 12 31 (.ixs 5 (.t 29) (.t 30)),p_ 13 32 (f_ 3 31),r_ 14 33 (l_ 32),p_ 15 34 (.len 0 (.t 33)),p_ 16 35 (.mx false (.t 34) (i_ 4000)),p_ 17 36 (.bin 0 1 (.t 28) (.t 35)),p_ 18 3 (m_ 36)])) (g_ 3 [p_ 0 17 (m_ 4),p_ 1 18 (.bin 0 0 (.t 17) (i_ 1)),p_ 2 4 (m_ 18)]))) [(0,[.can 0 [0,3,4]]),(2,[.can 0 [3]])])
def Rb:XF:=.mk 39 (.one 2) (.seq (g_ 1 [p_ 0 2 (.mv (.c (.bool false)))]) (.seq (g_ 1 [p_ 0 3 (.mv (i_ 3000))]) (.seq (.seq (g_ 1 [p_ 0 4 (.mv (i_ 0))]) (.block 2 (.pre [.can 0 [0,3,4],.up 3,.up 4,.can 0 [0,3,4]] (.inv 0 BQ)))) (.seq (g_ 3 [p_ 0 37 (m_ 3),p_ 1 38 (.bin 3 3 (.t 37) (i_ 0)),p_ 2 2 (m_ 38)]) .ret))))
theorem Ra:bE Tryz.prog 57 Rb=true:=by kernel_rfl
structure gZ where
 h:Value
 l:List aB
 left:Int
 i:Int
structure Fh where
 left:Int
def lG (p:gZ) (r:Fh):Prop:= -9000≤r.left∧r.left≤3000
noncomputable def kW (p:gZ):IL:=((.cons 4 (.sy (.int 0 p.i)) (.cons 3 (.sy (.int 0 p.left)) (.cons 0 (.sy (.imm p.h 5 aB p.l encP)) .nil))),.leaf,0)
noncomputable def rX (p:gZ) (K:KC):Bool:=am fun r:Fh=>iP (lG p r) (K 2 (.cons 3 (.sy (.int 0 r.left)) .nil) .leaf 0) true
def ke (p:gZ):Prop:= -9000≤p.left∧p.left≤3000∧0≤p.i∧p.i≤(p.l.length:Int)
theorem yd {p:gZ} {K:KC} (hK:rX p K=true) (r:Fh) (h:lG p r):K 2 (.cons 3 (.sy (.int 0 r.left)) .nil) .leaf 0=true:=au h (aG hK r)
noncomputable def uG (p:gZ) (K:KC):Bool:=ac (aC (ke p)) (rX p K)
noncomputable def CN:fE:=fun j S M nx K=>(Bool.rec (false) (aF fun p:gZ=>ac (aC ((S,M,nx)=kW p)) (uG p K)) (Nat.beq j 0))
def js (p:gZ):Nat:=((p.l.length:Int) - p.i).toNat
noncomputable def Kr (s:IL) (n:Nat) (K:KC):Bool:=aF fun q=>mP (s=kW q∧js q<n) (uG q K)
theorem TY {p q:gZ} {K:KC} {s:IL} (hm:js q<js p:=by dsimp only[js]<;>(omega)) (hp:ke q:=by dsimp only[ke]<;>(omega)) (hK:rX q K=true:=by exact hK) (e:s=kW q:=by rfl):Kr s (js p) K=true:=aK q (ba ⟨e,hm⟩ (ba hp hK))
theorem Sd (p:gZ) (K:KC) (hpre:ke p) (hK:rX p K=true):(cO (fC zc) CN 600 BQ (kW p).1 (kW p).2.1 (kW p).2.2 (fun e S M nx=>Nat.casesOn e (aF fun q:gZ=>ac (aC ((S,M,nx)=kW q∧js q<js p)) (uG q K)) (fun e2=>K (Nat.succ e2) S M nx)))=true:=by
 refine Eq.trans (b:=(let z0:Bool:=(K 2 (.cons 3 (.sy (.int 0 p.left)) .nil) .leaf 0);iP (p.i<(p.l.length:Int)) (iP (p.i<(300:Int)) (iP ((0:Int)≤p.left) (mP (bp 0 (p.left - (3:Int))) (mP (0≤p.i∧p.i<(p.l.length:Int)) (am fun x1:aB=>iP (p.l[p.i.toNat]?=some x1) (mP (bp 0 ((p.left - (3:Int)) - (min (x1.key.length:Int) (4000:Int)))) (mP (0≤p.i∧p.i<(p.l.length:Int)) (am fun x2:aB=>iP (p.l[p.i.toNat]?=some x2) (mP (bp 0 (((p.left - (3:Int)) - (min (x1.key.length:Int) (4000:Int))) - (min (x2.val.length:Int) (4000:Int)))) (mP (bp 0 (p.i+(1:Int))) (Kr ((.cons 4 (.sy (.int 0 (p.i+(1:Int)))) (.cons 3 (.sy (.int 0 (((p.left - (3:Int)) - (min (x1.key.length:Int) (4000:Int))) - (min (x2.val.length:Int) (4000:Int))))) (.cons 0 (.sy (.imm p.h 5 aB p.l encP)) .nil))),.leaf,0) (js p) K))) true))) true))) z0) z0) z0)) (by kernel_rfl) ?_
 dsimp only[ke]at hpre
 obtain⟨g0,g1,g2,g3⟩:=hpre
 refine iI (fun hc1=> ?_) (fun hc1=> ?_)
 refine iI (fun hc2=> ?_) (fun hc2=> ?_)
 refine iI (fun hc3=> ?_) (fun hc3=> ?_)
 refine bG (er ?_)
 refine az (fun x1=> ?_)
 refine iI (fun hi4=> ?_) (fun _=>rfl)
 refine bG (er ?_)
 refine az (fun x2=> ?_)
 refine iI (fun hi5=> ?_) (fun _=>rfl)
 refine bG (bG ?_)
 exact TY (q:=⟨p.h,p.l,((p.left - (3:Int)) - (min (x1.key.length:Int) (4000:Int))) - (min (x2.val.length:Int) (4000:Int)),p.i+(1:Int)⟩)
 exact yd hK ⟨p.left⟩ (by dsimp only[lG]<;>omega)
 exact yd hK ⟨p.left⟩ (by dsimp only[lG]<;>omega)
 exact yd hK ⟨p.left⟩ (by dsimp only[lG]<;>omega)
theorem To:dI Tryz.prog 39 0 CN true 0 BQ:=by
 exact eM (lf:=600) bm (cK vB) (by rfl) kW js uG (fun b j x h=>by cases h) (fun S M nx K h=>by obtain⟨p,h⟩:=bL h;exact⟨p,(aa h).1,(aa h).2⟩) (fun p K h=>Sd p K (aa h).1 (aa h).2)
structure Dz where
 h:Value
 l:List aB
structure Pe where
 q:Prop
noncomputable def Dw (p:Dz):IE:=([.sy (.imm p.h 5 aB p.l encP)],.leaf,0)
noncomputable def LZ (p:Dz) (K:KE):Bool:=am fun r:Pe=>K (.sy (.bool r.q)) .leaf 0
theorem Xe (p:Dz) (K:KE) (hK:LZ p K=true):(bW 0 (fC zc) CN 600 Rb (Dw p).1 (Dw p).2.1 (Dw p).2.2 K)=true:=by
 refine Eq.trans (b:=(aM (((.cons 4 (.sy (.int 0 0)) (.cons 3 (.sy (.int 0 3000)) (.cons 0 (.sy (.imm p.h 5 aB p.l encP)) .nil))),.leaf,0)) kW ke lG fun p1 r1=>K (.sy (.bool ((0:Int)≤r1.left))) .leaf 0)) (by kernel_rfl) ?_
 refine ay (⟨p.h,p.l,(3000:Int),(0:Int)⟩:gZ) rfl (by(try dsimp only[ke]);omega) fun r1 hi1=> ?_
 dsimp only[lG]at hi1
 exact aG hK (⟨(0:Int)≤r1.left⟩:Pe)
noncomputable def zd:=bt zc 0 (bJ Dw LZ) 57 [(0,23)]
theorem vE:aV Tryz.prog zd:=aR (bU (f:=57) (k:=0) (lp:=CN) (lf:=600) bm (cK vB) Ra (by rfl) (fun b j x h=>(cy To (fun h=>(by cases h)) h)) fun p K h=>Xe p K h) vB
def yr:XC:=(.aft (.seq (.seq (g_ 9 [p_ 0 6 (m_ 5),p_ 1 7 (m_ 0),p_ 2 8 (k_ 7),p_ 3 9 (.bin 3 0 (.t 6) (.t 8)),p_ 4 10 (m_ 9),aj 5 11 10 true (m_ 5),aj 6 12 10 true (m_ 1),aj 7 13 10 true (.bin 3 0 (.t 11) (.t 12)),p_ 8 14 (.pick (.t 10) (.t 13) (.c (.bool false)))]) (.cond (.t 14) .skip (.exit 2))) (.seq (.block 3 (.seq (g_ 16 [p_ 0 17 (m_ 0),p_ 1 18 (m_ 5),p_ 2 19 (.ixs 9 (.t 17) (.t 18)),p_ 3 20 (f_ 8 19),r_ 4 21 (l_ 20),p_ 5 22 (k_ 21),p_ 6 23 (.bin 3 2 (.t 22) (i_ 10)),p_ 7 24 (m_ 23),aj 8 25 24 false (m_ 0),aj 9 26 24 false (m_ 5),aj 10 27 24 false (.ixs 9 (.t 25) (.t 26)),aj 11 28 24 false (f_ 8 27),aT 12 29 24 false (l_ 28),fX 13 30 24 false 57 [.t 29],aj 14 31 24 false (.un 0 (.t 30)),p_ 15 32 (.pick (.t 24) (.c (.bool true)) (.t 31))]) (.cond (.t 32) (.seq (g_ 1 [p_ 0 4 (.mv (.c (.bool false)))]) .ret) .skip))) (g_ 3 [p_ 0 15 (m_ 5),p_ 1 16 (.bin 0 0 (.t 15) (i_ 1)),p_ 2 5 (m_ 16)]))) [(0,[.can 0 [0,1,5]]),(1,[.can 0 [4]]),(2,[.can 0 [0,1]])])
def Mv:XF:=.mk 37 (.one 4) (.aft (.seq (g_ 1 [p_ 0 4 (.mv (.c (.bool false)))]) (.seq (.seq (g_ 1 [p_ 0 5 (.mv (i_ 0))]) (.block 2 (.pre [.can 0 [0,1,5],.up 5,.can 0 [0,1,5]] (.inv 0 yr)))) (.seq (g_ 5 [p_ 0 33 (m_ 0),p_ 1 34 (k_ 33),p_ 2 35 (m_ 1),p_ 3 36 (.bin 3 1 (.t 34) (.t 35)),p_ 4 4 (m_ 36)]) .ret))) [(0,[.up 4]),(1,[.up 4])])
theorem OB:bE Tryz.prog 28 Mv=true:=by kernel_rfl
structure fT where
 h:Value
 l:List ax
 i:Int
def Fw (p:fT):Prop:=p.l.length≤60→gT p.l
noncomputable def jy (p:fT):IL:=((.cons 5 (.sy (.int 0 p.i)) (.cons 1 (.int 0 (.ofNat 60)) (.cons 0 (.sy (.imm p.h 9 ax p.l aI)) .nil))),.leaf,0)
noncomputable def vg (p:fT) (K:KC):Bool:=ac (iP (Fw p) (K 2 (.cons 1 (.int 0 (.ofNat 60)) (.cons 0 (.sy (.imm p.h 9 ax p.l aI)) .nil)) .leaf 0) true) (K 1 (.cons 4 (.bool false) .nil) .leaf 0)
def jg (p:fT):Prop:=0≤p.i∧p.i≤(p.l.length:Int)∧p.i≤60∧Ux p.l p.i
noncomputable def rM (p:fT) (K:KC):Bool:=ac (aC (jg p)) (vg p K)
noncomputable def zi:fE:=fun j S M nx K=>(Bool.rec (false) (aF fun p:fT=>ac (aC ((S,M,nx)=jy p)) (rM p K)) (Nat.beq j 0))
def ik (p:fT):Nat:=((p.l.length:Int) - p.i).toNat
noncomputable def GA (s:IL) (n:Nat) (K:KC):Bool:=aF fun q=>mP (s=jy q∧ik q<n) (rM q K)
theorem Rw {p q:fT} {K:KC} {s:IL} (hm:ik q<ik p:=by dsimp only[ik]<;>(omega)) (hp:jg q:=by dsimp only[jg]<;>(exact⟨by omega,by omega,by omega,SM g3 (by omega) (by assumption:p.l[p.i.toNat]?=some x1) (by omega)⟩)) (hK:vg q K=true:=by exact(by first|exact hK|exact aE hK0 hK1)) (e:s=jy q:=by rfl):GA s (ik p) K=true:=aK q (ba ⟨e,hm⟩ (ba hp hK))
theorem PD (p:fT) (K:KC) (hpre:jg p) (hK:vg p K=true):(cO (fC zd) zi 600 yr (jy p).1 (jy p).2.1 (jy p).2.2 (fun e S M nx=>Nat.casesOn e (aF fun q:fT=>ac (aC ((S,M,nx)=jy q∧ik q<ik p)) (rM q K)) (fun e2=>K (Nat.succ e2) S M nx)))=true:=by
 refine Eq.trans (b:=(let z0:Bool:=(K 2 (.cons 1 (.int 0 (.ofNat 60)) (.cons 0 (.sy (.imm p.h 9 ax p.l aI)) .nil)) .leaf 0);iP (p.i<(p.l.length:Int)) (iP (p.i<(60:Int)) (mP (0≤p.i∧p.i<(p.l.length:Int)) (am fun x1:ax=>iP (p.l[p.i.toNat]?=some x1) (iP ((10:Int)<(x1.ps.length:Int)) (K 1 (.cons 4 (.bool false) .nil) .leaf 0) (mP (0≤p.i∧p.i<(p.l.length:Int)) (am fun x2:ax=>iP (p.l[p.i.toNat]?=some x2) (aF fun p1:Dz=>mP (([.sy (.imm x2.hp 5 aB x2.ps encP)],.leaf,0)=Dw p1) (am fun r1:Pe=>iP (¬r1.q) (K 1 (.cons 4 (.bool false) .nil) .leaf 0) (mP (bp 0 (p.i+(1:Int))) (GA ((.cons 5 (.sy (.int 0 (p.i+(1:Int)))) (.cons 1 (.int 0 (.ofNat 60)) (.cons 0 (.sy (.imm p.h 9 ax p.l aI)) .nil))),.leaf,0) (ik p) K)))) true))) true)) z0) z0)) (by kernel_rfl) ?_
 obtain⟨hK0,hKr0⟩:=ai hK
 have hK1:=hKr0
 dsimp only[jg]at hpre
 obtain⟨g0,g1,g2,g3⟩:=hpre
 refine iI (fun hc1=> ?_) (fun hc1=> ?_)
 refine iI (fun hc2=> ?_) (fun hc2=> ?_)
 refine er ?_
 refine az (fun x1=> ?_)
 refine iI (fun hi3=> ?_) (fun _=>rfl)
 refine iI (fun hc4=> ?_) (fun hc4=> ?_)
 exact hK1
 refine er ?_
 refine az (fun x2=> ?_)
 refine iI (fun hi5=> ?_) (fun _=>rfl)
 refine aK (⟨x2.hp,x2.ps⟩:Dz) (mI rfl ?_)
 refine az (fun r1=> ?_)
 refine iI (fun hc6=> ?_) (fun hc6=> ?_)
 exact hK1
 refine bG ?_
 exact Rw (q:=⟨p.h,p.l,p.i+(1:Int)⟩)
 exact au (show p.l.length≤60→gT p.l from(by intro z;exact Qj g3 (by omega) (by omega))) hK0
 exact au (show p.l.length≤60→gT p.l from(by intro z;exact Qj g3 (by omega) (by omega))) hK0
theorem Qz:dI Tryz.prog 37 0 zi true 0 yr:=by
 exact eM (lf:=600) bm (cK vE) (by rfl) jy ik rM (fun b j x h=>by cases h) (fun S M nx K h=>by obtain⟨p,h⟩:=bL h;exact⟨p,(aa h).1,(aa h).2⟩) (fun p K h=>PD p K (aa h).1 (aa h).2)
structure rC where
 h:Value
 l:List ax
structure Ds where
 q:Prop
def pO (p:rC) (r:Ds):Prop:=r.q→gT p.l
noncomputable def yG (p:rC):IE:=([.sy (.imm p.h 9 ax p.l aI),.int 0 (.ofNat 60)],.leaf,0)
noncomputable def AS (p:rC) (K:KE):Bool:=am fun r:Ds=>iP (pO p r) (K (.sy (.bool r.q)) .leaf 0) true
theorem JP {p:rC} {K:KE} (hK:AS p K=true) (r:Ds) (h:pO p r):K (.sy (.bool r.q)) .leaf 0=true:=au h (aG hK r)
theorem UY (p:rC) (K:KE) (hK:AS p K=true):(bW 0 (fC zd) zi 600 Mv (yG p).1 (yG p).2.1 (yG p).2.2 K)=true:=by
 refine Eq.trans (b:=(aF fun p1:fT=>mP (((.cons 5 (.sy (.int 0 0)) (.cons 1 (.int 0 (.ofNat 60)) (.cons 0 (.sy (.imm p.h 9 ax p.l aI)) .nil))),.leaf,0)=jy p1) (mP (jg p1) (ac (iP (Fw p1) (K (.sy (.bool ((p1.l.length:Int)≤(60:Int)))) .leaf 0) true) (K (.sy (.bool (false=true))) .leaf 0))))) (by kernel_rfl) ?_
 refine dx (⟨p.h,p.l,(0:Int)⟩:fT) rfl (by(try dsimp only[jg]);exact⟨by omega,by omega,by omega,fun j x h1 h2=>by omega⟩) ?_
 refine aE ?_ ?_
 refine iI (p:=p.l.length≤60→gT p.l) (fun hi1=> ?_) (fun _=>rfl)
 exact JP hK ⟨(p.l.length:Int)≤(60:Int)⟩ (by dsimp only[pO]<;>(first|(intro z;cases z;done)|(intro z;exact hi1 (by omega))))
 exact JP hK ⟨false=true⟩ (by dsimp only[pO]<;>(first|(intro z;cases z;done)|(intro z;exact hi0 (by omega))))
noncomputable def vF:=bt zd 0 (bJ yG AS) 28 [(0,23)]
theorem tp:aV Tryz.prog vF:=aR (bU (f:=28) (k:=0) (lp:=zi) (lf:=600) bm (cK vE) OB (by rfl) (fun b j x h=>(cy Qz (fun h=>(by cases h)) h)) fun p K h=>UY p K h) vE
def wh:XC:=(.aft (.seq (.seq (g_ 4 [p_ 0 5 (m_ 4),p_ 1 6 (m_ 0),p_ 2 7 (k_ 6),p_ 3 8 (.bin 3 0 (.t 5) (.t 7))]) (.cond (.t 8) .skip (.exit 2))) (.seq (.block 3 (g_ 9 [p_ 0 11 (m_ 3),p_ 1 12 (m_ 0),p_ 2 13 (m_ 4),p_ 3 14 (.ixs 5 (.t 12) (.t 13)),r_ 4 15 (.ld true 5 (.t 14)),c_ 5 16 87 [.t 15],e_ 6 17 (.bsl 124 5 1 [.int 1 (.ofNat 0),.int 1 (.ofNat 0),.str [],.str [],.int 0 (.ofNat 0)] [(0,5)] [.t 16]),e_ 7 18 (.app 124 5 48 (.t 11) (.t 17)),p_ 8 3 (m_ 18)])) (g_ 3 [p_ 0 9 (m_ 4),p_ 1 10 (.bin 0 0 (.t 9) (i_ 1)),p_ 2 4 (m_ 10)]))) [(0,[.can 0 [0,3,4]]),(2,[.can 0 [3]])])
def Jv:XF:=.mk 20 (.one 2) (.aft (.seq (g_ 1 [p_ 0 2 (.mv (.c .nilS))]) (.seq (g_ 1 [p_ 0 3 (.mv (.c .nilS))]) (.seq (.seq (g_ 1 [p_ 0 4 (.mv (i_ 0))]) (.block 2 (.pre [.can 0 [0,3,4],.born 3 124 5 aB encP,.up 4,.can 0 [0,3,4]] (.inv 0 wh)))) (.seq (g_ 2 [p_ 0 19 (m_ 3),p_ 1 2 (m_ 19)]) .ret)))) [(0,[.frz 2]),(1,[.frz 2])])
theorem Lj:bE Tryz.prog 58 Jv=true:=by kernel_rfl
structure fg where
 h:Value
 l:List aB
 o:List aB
 i:Int
structure yB where
 o:List aB
def mM (p:fg) (r:yB):Prop:=r.o=p.l
noncomputable def iu (p:fg):IL:=((.cons 4 (.sy (.int 0 p.i)) (.cons 3 (.sy (.prow 0 p.o.length)) (.cons 0 (.sy (.imm p.h 5 aB p.l encP)) .nil))),(.node .leaf (some (.prow 124 5 aB p.o encP)) .leaf),1)
noncomputable def oo (p:fg) (K:KC):Bool:=am fun r:yB=>iP (mM p r) (K 2 (.cons 3 (.sy (.prow 0 r.o.length)) .nil) (.node .leaf (some (.prow 124 5 aB r.o encP)) .leaf) 1) true
def iB (p:fg):Prop:=p.l.length≤10∧0≤p.i∧p.i≤(p.l.length:Int)∧(p.o.length:Int)=p.i∧p.o=p.l.take p.i.toNat
theorem Lt {p:fg} {K:KC} (hK:oo p K=true) (r:yB) (h:mM p r):K 2 (.cons 3 (.sy (.prow 0 r.o.length)) .nil) (.node .leaf (some (.prow 124 5 aB r.o encP)) .leaf) 1=true:=au h (aG hK r)
noncomputable def pn (p:fg) (K:KC):Bool:=ac (aC (iB p)) (oo p K)
noncomputable def vO:fE:=fun j S M nx K=>(Bool.rec (false) (aF fun p:fg=>ac (aC ((S,M,nx)=iu p)) (pn p K)) (Nat.beq j 0))
def gf (p:fg):Nat:=((p.l.length:Int) - p.i).toNat
noncomputable def Dl (s:IL) (n:Nat) (K:KC):Bool:=aF fun q=>mP (s=iu q∧gf q<n) (pn q K)
theorem OR {p q:fg} {K:KC} {s:IL} (hm:gf q<gf p:=by dsimp only[gf]<;>(omega)) (hp:iB q:=by dsimp only[iB]<;>(exact⟨g0,by omega,by omega,by simp;omega,by rw[show(p.i+1).toNat=p.i.toNat+1 by omega,←tk (by assumption:p.l[p.i.toNat]?=some _),g4]⟩)) (hK:oo q K=true:=by exact hK) (e:s=iu q:=by rfl):Dl s (gf p) K=true:=aK q (ba ⟨e,hm⟩ (ba hp hK))
theorem Ni (p:fg) (K:KC) (hpre:iB p) (hK:oo p K=true):(cO (fC vF) vO 600 wh (iu p).1 (iu p).2.1 (iu p).2.2 (fun e S M nx=>Nat.casesOn e (aF fun q:fg=>ac (aC ((S,M,nx)=iu q∧gf q<gf p)) (pn q K)) (fun e2=>K (Nat.succ e2) S M nx)))=true:=by
 refine Eq.trans (b:=(iP (p.i<(p.l.length:Int)) (mP (0≤p.i∧p.i<(p.l.length:Int)) (am fun x1:aB=>iP (p.l[p.i.toNat]?=some x1) (mP (p.o.length=p.o.length) (aF fun m1:List aB=>mP (iL (m1.map encP) [[.sint 1 x1.g,.sint 1 x1.k,.sstr x1.key,.sstr x1.val,.sint 0 x1.n]]) (mP (eN 48 (p.o.length+m1.length)) (mP (bp 0 (p.i+(1:Int))) (Dl ((.cons 4 (.sy (.int 0 (p.i+(1:Int)))) (.cons 3 (.sy (.prow 0 ((p.o++m1).length))) (.cons 0 (.sy (.imm p.h 5 aB p.l encP)) .nil))),(.node .leaf (some (.prow 124 5 aB (p.o++m1) encP)) .leaf),1) (gf p) K))))) true)) (K 2 (.cons 3 (.sy (.prow 0 p.o.length)) .nil) (.node .leaf (some (.prow 124 5 aB p.o encP)) .leaf) 1))) (by kernel_rfl) ?_
 dsimp only[iB]at hpre
 obtain⟨g0,g1,g2,g3,g4⟩:=hpre
 refine iI (fun hc1=> ?_) (fun hc1=> ?_)
 refine er ?_
 refine az (fun x1=> ?_)
 refine iI (fun hi2=> ?_) (fun _=>rfl)
 refine aL ?_
 refine aK [x1] ?_
 refine xS (mI (by(try dsimp only);(first|omega|(simp[eN]<;>omega))) (bG ?_))
 exact OR (q:=⟨p.h,p.l,p.o++[x1],p.i+(1:Int)⟩)
 exact Lt hK ⟨p.o⟩ (by dsimp only[mM]<;>(rw[g4];exact List.take_of_length_le (by omega)))
theorem Oo:dI Tryz.prog 20 0 vO true 0 wh:=by
 exact eM (lf:=600) bm (cK tp) (by rfl) iu gf pn (fun b j x h=>by cases h) (fun S M nx K h=>by obtain⟨p,h⟩:=bL h;exact⟨p,(aa h).1,(aa h).2⟩) (fun p K h=>Ni p K (aa h).1 (aa h).2)
structure nT where
 h:Value
 l:List aB
structure EZ where
 h:Value
 o:List aB
def qp (p:nT) (r:EZ):Prop:=r.o=p.l
noncomputable def uw (p:nT):IE:=([.sy (.imm p.h 5 aB p.l encP)],.leaf,0)
noncomputable def xe (p:nT) (K:KE):Bool:=am fun r:EZ=>iP (qp p r) (K (.sy (.imm r.h 5 aB r.o encP)) .leaf 0) true
def oA (p:nT):Prop:=p.l.length≤10
theorem Rf {p:nT} {K:KE} (hK:xe p K=true) (r:EZ) (h:qp p r):K (.sy (.imm r.h 5 aB r.o encP)) .leaf 0=true:=au h (aG hK r)
theorem RO (p:nT) (K:KE) (hpre:oA p) (hK:xe p K=true):(bW 0 (fC vF) vO 600 Jv (uw p).1 (uw p).2.1 (uw p).2.2 K)=true:=by
 refine Eq.trans (b:=(aM (((.cons 4 (.sy (.int 0 0)) (.cons 3 (.sy (.prow 0 0)) (.cons 0 (.sy (.imm p.h 5 aB p.l encP)) .nil))),(.node .leaf (some (.prow 124 5 aB ([]:List aB) encP)) .leaf),1)) iu iB mM fun p1 r1=>mP (r1.o.length=r1.o.length) (am fun h1:Value=>K (.sy (.imm h1 5 aB r1.o encP)) .leaf 0))) (by kernel_rfl) ?_
 dsimp only[oA]at hpre
 refine ay (⟨p.h,p.l,([]:List aB),(0:Int)⟩:fg) rfl (by(try dsimp only[iB]);exact⟨by assumption,by omega,by omega,by simp,by simp⟩) fun r1 hi1=> ?_
 dsimp only[mM]at hi1
 refine aL ?_
 refine az (fun h1=> ?_)
 exact Rf hK ⟨h1,r1.o⟩ (by dsimp only[qp]<;>exact hi1)
noncomputable def sg:=bt vF 0 (bJ uw (dr oA xe)) 58 [(0,23)]
theorem qP:aV Tryz.prog sg:=aR (bU (f:=58) (k:=0) (lp:=vO) (lf:=600) bm (cK tp) Lj (by rfl) (fun b j x h=>(cy Oo (fun h=>(by cases h)) h)) fun p K h=>RO p K (aa h).1 (aa h).2) tp
def yu:XC:=(.aft (.seq (.seq (g_ 5 [p_ 0 21 (m_ 4),p_ 1 22 (f_ 0 1),r_ 2 23 (l_ 22),p_ 3 24 (k_ 23),p_ 4 25 (.bin 3 0 (.t 21) (.t 24))]) (.cond (.t 25) .skip (.exit 2))) (.seq (.block 3 (.seq (g_ 7 [p_ 0 28 (f_ 0 1),r_ 1 29 (l_ 28),p_ 2 30 (m_ 4),p_ 3 31 (.ixs 3 (.t 29) (.t 30)),r_ 4 32 (.ld true 3 (.t 31)),e_ 5 5 (.al 69 [.int 0 (.ofNat 0),.int 0 (.ofNat 0),.bool false]),bl 6 (.st 3 (.t 5) (.t 32))]) (g_ 13 [p_ 0 33 (f_ 0 3),r_ 1 34 (l_ 33),p_ 2 35 (f_ 0 5),r_ 3 36 (l_ 35),p_ 4 37 (f_ 1 5),r_ 5 38 (l_ 37),p_ 6 39 (f_ 2 5),r_ 7 40 (l_ 39),p_ 8 41 (.bld [.int 0 (.ofNat 0),.int 0 (.ofNat 0),.bool false] [(0,1),(1,1),(2,1)] [.t 36,.t 38,.t 40]),e_ 9 42 (.bsl 82 3 1 [.int 0 (.ofNat 0),.int 0 (.ofNat 0),.bool false] [(0,3)] [.t 41]),e_ 10 43 (.app 82 3 24 (.t 34) (.t 42)),p_ 11 44 (f_ 0 3),bl 12 (.st 1 (.t 44) (.t 43))]))) (g_ 3 [p_ 0 26 (m_ 4),p_ 1 27 (.bin 0 0 (.t 26) (i_ 1)),p_ 2 4 (m_ 27)]))) [(0,[.can 0 [1,2,3,4]]),(2,[.can 0 [2,3]])])
def My:XF:=.mk 46 (.cell 2 true 8) (.aft (.seq (g_ 2 [e_ 0 1 (.box 34 (.t 0)),e_ 1 2 (.al 26 [.nilS,.int 0 (.ofNat 0),.int 0 (.ofNat 0),.int 0 (.ofNat 0),.int 0 (.ofNat 0),.int 0 (.ofNat 0),.int 0 (.ofNat 0),.int 4 (.ofNat 0)])]) (.seq (g_ 17 [p_ 0 6 (f_ 1 1),r_ 1 7 (l_ 6),p_ 2 8 (f_ 2 1),r_ 3 9 (l_ 8),p_ 4 10 (f_ 3 1),r_ 5 11 (l_ 10),p_ 6 12 (f_ 4 1),r_ 7 13 (l_ 12),p_ 8 14 (f_ 5 1),r_ 9 15 (l_ 14),p_ 10 16 (f_ 6 1),r_ 11 17 (l_ 16),p_ 12 18 (f_ 7 1),r_ 13 19 (l_ 18),p_ 14 20 (.bld [.nilS,.int 0 (.ofNat 0),.int 0 (.ofNat 0),.int 0 (.ofNat 0),.int 0 (.ofNat 0),.int 0 (.ofNat 0),.int 0 (.ofNat 0),.int 4 (.ofNat 0)] [(1,1),(2,1),(3,1),(4,1),(5,1),(6,1),(7,1)] [.t 7,.t 9,.t 11,.t 13,.t 15,.t 17,.t 19]),e_ 15 3 (.al 26 [.nilS,.int 0 (.ofNat 0),.int 0 (.ofNat 0),.int 0 (.ofNat 0),.int 0 (.ofNat 0),.int 0 (.ofNat 0),.int 0 (.ofNat 0),.int 4 (.ofNat 0)]),bl 16 (.st 8 (.t 3) (.t 20))]) (.seq (.seq (g_ 1 [p_ 0 4 (.mv (i_ 0))]) (.block 2 (.pre [.can 0 [1,2,3,4],.cell 2 0 0 82 3 aw aD,.up 4,.can 0 [1,2,3,4]] (.inv 0 yu)))) (.seq (g_ 2 [r_ 0 45 (.ld true 8 (.t 3)),bl 1 (.st 8 (.t 2) (.t 45))]) .ret)))) [(0,[.frzc 0 0 0]),(1,[.frzc 0 0 0])])
theorem OE:bE Tryz.prog 29 My=true:=by kernel_rfl
structure fU where
 h:Value
 l:List aw
 clients:Int
 window:Int
 deadline:Int
 pace:Int
 again:Int
 bag:Int
 first:Int
 o:List aw
 i:Int
structure Cc where
 o:List aw
def oH (p:fU) (r:Cc):Prop:=r.o=p.l
noncomputable def jA (p:fU):IL:=((.cons 4 (.sy (.int 0 p.i)) (.cons 3 (.ptr 2 0) (.cons 2 (.ptr 1 0) (.cons 1 (.ptr 0 0) .nil)))),(.node (.node (.node .leaf (some (.prow 82 3 aw p.o aD)) .leaf) (some (.blk false 26 8 [[.nilS,.int 0 (.ofNat 0),.int 0 (.ofNat 0),.int 0 (.ofNat 0),.int 0 (.ofNat 0),.int 0 (.ofNat 0),.int 0 (.ofNat 0),.int 4 (.ofNat 0)]])) .leaf) (some (.blk false 34 8 [[.sy (.imm p.h 3 aw p.l aD),.sy (.int 0 p.clients),.sy (.int 0 p.window),.sy (.int 0 p.deadline),.sy (.int 0 p.pace),.sy (.int 0 p.again),.sy (.int 0 p.bag),.sy (.int 4 p.first)]])) (.node .leaf (some (.blk false 26 8 [[.sy (.prow 3 p.o.length),.sy (.int 0 p.clients),.sy (.int 0 p.window),.sy (.int 0 p.deadline),.sy (.int 0 p.pace),.sy (.int 0 p.again),.sy (.int 0 p.bag),.sy (.int 4 p.first)]])) .leaf)),4)
noncomputable def pv (p:fU) (K:KC):Bool:=am fun r:Cc=>iP (oH p r) (K 2 (.cons 3 (.ptr 1 0) (.cons 2 (.ptr 0 0) .nil)) (.node (.node .leaf (some (.blk false 26 8 [[.sy (.prow 2 r.o.length),.sy (.int 0 p.clients),.sy (.int 0 p.window),.sy (.int 0 p.deadline),.sy (.int 0 p.pace),.sy (.int 0 p.again),.sy (.int 0 p.bag),.sy (.int 4 p.first)]])) .leaf) (some (.blk false 26 8 [[.nilS,.int 0 (.ofNat 0),.int 0 (.ofNat 0),.int 0 (.ofNat 0),.int 0 (.ofNat 0),.int 0 (.ofNat 0),.int 0 (.ofNat 0),.int 4 (.ofNat 0)]])) (.node .leaf (some (.prow 82 3 aw r.o aD)) .leaf)) 3) true
def ji (p:fU):Prop:=p.l.length≤10∧0≤p.i∧p.i≤(p.l.length:Int)∧(p.o.length:Int)=p.i∧p.o=p.l.take p.i.toNat
theorem OJ {p:fU} {K:KC} (hK:pv p K=true) (r:Cc) (h:oH p r):K 2 (.cons 3 (.ptr 1 0) (.cons 2 (.ptr 0 0) .nil)) (.node (.node .leaf (some (.blk false 26 8 [[.sy (.prow 2 r.o.length),.sy (.int 0 p.clients),.sy (.int 0 p.window),.sy (.int 0 p.deadline),.sy (.int 0 p.pace),.sy (.int 0 p.again),.sy (.int 0 p.bag),.sy (.int 4 p.first)]])) .leaf) (some (.blk false 26 8 [[.nilS,.int 0 (.ofNat 0),.int 0 (.ofNat 0),.int 0 (.ofNat 0),.int 0 (.ofNat 0),.int 0 (.ofNat 0),.int 0 (.ofNat 0),.int 4 (.ofNat 0)]])) (.node .leaf (some (.prow 82 3 aw r.o aD)) .leaf)) 3=true:=au h (aG hK r)
noncomputable def rO (p:fU) (K:KC):Bool:=ac (aC (ji p)) (pv p K)
noncomputable def zk:fE:=fun j S M nx K=>(Bool.rec (false) (aF fun p:fU=>ac (aC ((S,M,nx)=jA p)) (rO p K)) (Nat.beq j 0))
def im (p:fU):Nat:=((p.l.length:Int) - p.i).toNat
noncomputable def GC (s:IL) (n:Nat) (K:KC):Bool:=aF fun q=>mP (s=jA q∧im q<n) (rO q K)
theorem Ry {p q:fU} {K:KC} {s:IL} (hm:im q<im p:=by dsimp only[im]<;>(omega)) (hp:ji q:=by dsimp only[ji]<;>(exact⟨g0,by omega,by omega,by simp;omega,by rw[show(p.i+1).toNat=p.i.toNat+1 by omega,←tk (by assumption:p.l[p.i.toNat]?=some _),g4]⟩)) (hK:pv q K=true:=by exact hK) (e:s=jA q:=by rfl):GC s (im p) K=true:=aK q (ba ⟨e,hm⟩ (ba hp hK))
theorem PF (p:fU) (K:KC) (hpre:ji p) (hK:pv p K=true):(cO (fC sg) zk 600 yu (jA p).1 (jA p).2.1 (jA p).2.2 (fun e S M nx=>Nat.casesOn e (aF fun q:fU=>ac (aC ((S,M,nx)=jA q∧im q<im p)) (rO q K)) (fun e2=>K (Nat.succ e2) S M nx)))=true:=by
 refine Eq.trans (b:=(iP (p.i<(p.l.length:Int)) (mP (0≤p.i∧p.i<(p.l.length:Int)) (am fun x1:aw=>iP (p.l[p.i.toNat]?=some x1) (mP (p.o.length=p.o.length) (aF fun m1:List aw=>mP (iL (m1.map aD) [[.sint 0 x1.f,.sint 0 x1.s,.sbool x1.c]]) (mP (eN 24 (p.o.length+m1.length)) (mP (bp 0 (p.i+(1:Int))) (GC ((.cons 4 (.sy (.int 0 (p.i+(1:Int)))) (.cons 3 (.ptr 2 0) (.cons 2 (.ptr 1 0) (.cons 1 (.ptr 0 0) .nil)))),(.node (.node (.node .leaf (some (.prow 82 3 aw (p.o++m1) aD)) .leaf) (some (.blk false 26 8 [[.nilS,.int 0 (.ofNat 0),.int 0 (.ofNat 0),.int 0 (.ofNat 0),.int 0 (.ofNat 0),.int 0 (.ofNat 0),.int 0 (.ofNat 0),.int 4 (.ofNat 0)]])) .leaf) (some (.blk false 34 8 [[.sy (.imm p.h 3 aw p.l aD),.sy (.int 0 p.clients),.sy (.int 0 p.window),.sy (.int 0 p.deadline),.sy (.int 0 p.pace),.sy (.int 0 p.again),.sy (.int 0 p.bag),.sy (.int 4 p.first)]])) (.node .leaf (some (.blk false 26 8 [[.sy (.prow 3 ((p.o++m1).length)),.sy (.int 0 p.clients),.sy (.int 0 p.window),.sy (.int 0 p.deadline),.sy (.int 0 p.pace),.sy (.int 0 p.again),.sy (.int 0 p.bag),.sy (.int 4 p.first)]])) .leaf)),4) (im p) K))))) true)) (K 2 (.cons 3 (.ptr 1 0) (.cons 2 (.ptr 0 0) .nil)) (.node (.node .leaf (some (.blk false 26 8 [[.sy (.prow 2 p.o.length),.sy (.int 0 p.clients),.sy (.int 0 p.window),.sy (.int 0 p.deadline),.sy (.int 0 p.pace),.sy (.int 0 p.again),.sy (.int 0 p.bag),.sy (.int 4 p.first)]])) .leaf) (some (.blk false 26 8 [[.nilS,.int 0 (.ofNat 0),.int 0 (.ofNat 0),.int 0 (.ofNat 0),.int 0 (.ofNat 0),.int 0 (.ofNat 0),.int 0 (.ofNat 0),.int 4 (.ofNat 0)]])) (.node .leaf (some (.prow 82 3 aw p.o aD)) .leaf)) 3))) (by kernel_rfl) ?_
 dsimp only[ji]at hpre
 obtain⟨g0,g1,g2,g3,g4⟩:=hpre
 refine iI (fun hc1=> ?_) (fun hc1=> ?_)
 refine er ?_
 refine az (fun x1=> ?_)
 refine iI (fun hi2=> ?_) (fun _=>rfl)
 refine aL ?_
 refine aK [x1] ?_
 refine xS (mI (by(try dsimp only);(first|omega|(simp[eN]<;>omega))) (bG ?_))
 exact Ry (q:=⟨p.h,p.l,p.clients,p.window,p.deadline,p.pace,p.again,p.bag,p.first,p.o++[x1],p.i+(1:Int)⟩)
 exact OJ hK ⟨p.o⟩ (by dsimp only[oH]<;>(rw[g4];exact List.take_of_length_le (by omega)))
theorem QC:dI Tryz.prog 46 0 zk true 0 yu:=by
 exact eM (lf:=600) bm (cK qP) (by rfl) jA im rO (fun b j x h=>by cases h) (fun S M nx K h=>by obtain⟨p,h⟩:=bL h;exact⟨p,(aa h).1,(aa h).2⟩) (fun p K h=>PF p K (aa h).1 (aa h).2)
structure rF where
 h:Value
 l:List aw
 clients:Int
 window:Int
 deadline:Int
 pace:Int
 again:Int
 bag:Int
 first:Int
structure KJ where
 h:Value
 o:List aw
def tS (p:rF) (r:KJ):Prop:=r.o=p.l
noncomputable def yJ (p:rF):IE:=([.agg [.sy (.imm p.h 3 aw p.l aD),.sy (.int 0 p.clients),.sy (.int 0 p.window),.sy (.int 0 p.deadline),.sy (.int 0 p.pace),.sy (.int 0 p.again),.sy (.int 0 p.bag),.sy (.int 4 p.first)]],.leaf,0)
noncomputable def AY (p:rF) (K:KE):Bool:=am fun r:KJ=>iP (tS p r) (K (.agg [.sy (.imm r.h 3 aw r.o aD),.sy (.int 0 p.clients),.sy (.int 0 p.window),.sy (.int 0 p.deadline),.sy (.int 0 p.pace),.sy (.int 0 p.again),.sy (.int 0 p.bag),.sy (.int 4 p.first)]) .leaf 0) true
def qo (p:rF):Prop:=p.l.length≤10
theorem TI {p:rF} {K:KE} (hK:AY p K=true) (r:KJ) (h:tS p r):K (.agg [.sy (.imm r.h 3 aw r.o aD),.sy (.int 0 p.clients),.sy (.int 0 p.window),.sy (.int 0 p.deadline),.sy (.int 0 p.pace),.sy (.int 0 p.again),.sy (.int 0 p.bag),.sy (.int 4 p.first)]) .leaf 0=true:=au h (aG hK r)
theorem Vb (p:rF) (K:KE) (hpre:qo p) (hK:AY p K=true):(bW 0 (fC sg) zk 600 My (yJ p).1 (yJ p).2.1 (yJ p).2.2 K)=true:=by
 refine Eq.trans (b:=(mP ((.nilS:AV)=(.nilS:AV)) (aM (((.cons 4 (.sy (.int 0 0)) (.cons 3 (.ptr 2 0) (.cons 2 (.ptr 1 0) (.cons 1 (.ptr 0 0) .nil)))),(.node (.node (.node .leaf (some (.prow 82 3 aw ([]:List aw) aD)) .leaf) (some (.blk false 26 8 [[.nilS,.int 0 (.ofNat 0),.int 0 (.ofNat 0),.int 0 (.ofNat 0),.int 0 (.ofNat 0),.int 0 (.ofNat 0),.int 0 (.ofNat 0),.int 4 (.ofNat 0)]])) .leaf) (some (.blk false 34 8 [[.sy (.imm p.h 3 aw p.l aD),.sy (.int 0 p.clients),.sy (.int 0 p.window),.sy (.int 0 p.deadline),.sy (.int 0 p.pace),.sy (.int 0 p.again),.sy (.int 0 p.bag),.sy (.int 4 p.first)]])) (.node .leaf (some (.blk false 26 8 [[.sy (.prow 3 0),.sy (.int 0 p.clients),.sy (.int 0 p.window),.sy (.int 0 p.deadline),.sy (.int 0 p.pace),.sy (.int 0 p.again),.sy (.int 0 p.bag),.sy (.int 4 p.first)]])) .leaf)),4)) jA ji oH fun p1 r1=>mP (r1.o.length=r1.o.length) (am fun h1:Value=>mP ((.sy (.prow 2 r1.o.length):AV)=(.sy (.prow 2 r1.o.length):AV)) (K (.agg [.sy (.imm h1 3 aw r1.o aD),.sy (.int 0 p1.clients),.sy (.int 0 p1.window),.sy (.int 0 p1.deadline),.sy (.int 0 p1.pace),.sy (.int 0 p1.again),.sy (.int 0 p1.bag),.sy (.int 4 p1.first)]) .leaf 0))))) (by kernel_rfl) ?_
 dsimp only[qo]at hpre
 refine aL ?_
 refine ay (⟨p.h,p.l,p.clients,p.window,p.deadline,p.pace,p.again,p.bag,p.first,([]:List aw),(0:Int)⟩:fU) rfl (by(try dsimp only[ji]);exact⟨by assumption,by omega,by omega,by simp,by simp⟩) fun r1 hi1=> ?_
 dsimp only[oH]at hi1
 refine aL ?_
 refine az (fun h1=> ?_)
 refine aL ?_
 exact TI hK ⟨h1,r1.o⟩ (by dsimp only[tS]<;>exact hi1)
noncomputable def vJ:=bt sg 0 (bJ yJ (dr qo AY)) 29 [(0,15)]
theorem tw:aV Tryz.prog vJ:=aR (bU (f:=29) (k:=0) (lp:=zk) (lf:=600) bm (cK qP) OE (by rfl) (fun b j x h=>(cy QC (fun h=>(by cases h)) h)) fun p K h=>Vb p K (aa h).1 (aa h).2) qP
def BN:XC:=(.aft (.seq (.seq (g_ 5 [p_ 0 9 (m_ 4),p_ 1 10 (f_ 8 1),r_ 2 11 (l_ 10),p_ 3 12 (k_ 11),p_ 4 13 (.bin 3 0 (.t 9) (.t 12))]) (.cond (.t 13) .skip (.exit 2))) (.seq (.block 3 (h_ 12 [p_ 0 16 (f_ 8 3),r_ 1 17 (l_ 16),p_ 2 18 (f_ 8 1),r_ 3 19 (l_ 18),p_ 4 20 (m_ 4),p_ 5 21 (.ixs 9 (.t 19) (.t 20)),r_ 6 22 (.ld true 9 (.t 21)),c_ 7 23 30 [.t 22],a_ 1 17 (l_ 16),e_ 8 24 (.bsl 54 9 1 [.int 0 (.ofNat 0),.int 0 (.ofNat 0),.int 0 (.ofNat 0),.int 0 (.ofNat 0),.int 0 (.ofNat 0),.int 0 (.ofNat 0),.int 3 (.ofNat 0),.int 1 (.ofNat 0),.nilS] [(0,9)] [.t 23]),a_ 1 17 (l_ 16),e_ 9 25 (.app 54 9 80 (.t 17) (.t 24)),p_ 10 26 (f_ 8 3),bl 11 (.st 1 (.t 26) (.t 25))])) (g_ 3 [p_ 0 14 (m_ 4),p_ 1 15 (.bin 0 0 (.t 14) (i_ 1)),p_ 2 4 (m_ 15)]))) [(0,[.can 0 [1,2,3,4]]),(2,[.can 0 [2,3]])])
def QX:XF:=.mk 28 (.cell 2 true 9) (.aft (.seq (g_ 2 [e_ 0 1 (.box 37 (.t 0)),e_ 1 2 (.al 29 [.nilS,.int 0 (.ofNat 0),.int 0 (.ofNat 0),.int 0 (.ofNat 0),.int 0 (.ofNat 0),.int 0 (.ofNat 0),.int 0 (.ofNat 0),.int 4 (.ofNat 0),.nilS])]) (.seq (g_ 6 [p_ 0 5 (f_ 0 1),r_ 1 6 (.ld true 8 (.t 5)),c_ 2 7 29 [.t 6],p_ 3 8 (.bld [.nilS,.int 0 (.ofNat 0),.int 0 (.ofNat 0),.int 0 (.ofNat 0),.int 0 (.ofNat 0),.int 0 (.ofNat 0),.int 0 (.ofNat 0),.int 4 (.ofNat 0),.nilS] [(0,8)] [.t 7]),e_ 4 3 (.al 29 [.nilS,.int 0 (.ofNat 0),.int 0 (.ofNat 0),.int 0 (.ofNat 0),.int 0 (.ofNat 0),.int 0 (.ofNat 0),.int 0 (.ofNat 0),.int 4 (.ofNat 0),.nilS]),bl 5 (.st 9 (.t 3) (.t 8))]) (.seq (.seq (g_ 1 [p_ 0 4 (.mv (i_ 0))]) (.block 2 (.pre [.can 0 [1,2,3,4],.cell 2 0 8 54 9 ax aI,.up 4,.can 0 [1,2,3,4]] (.inv 0 BN)))) (.seq (g_ 2 [r_ 0 27 (.ld true 9 (.t 3)),bl 1 (.st 9 (.t 2) (.t 27))]) .ret)))) [(0,[.frzc 0 0 8]),(1,[.frzc 0 0 8])])
theorem QW:bE Tryz.prog 10 QX=true:=by kernel_rfl
structure gY where
 s:bN
 hg:Value
 gs:List aw
 o:List ax
 i:Int
structure Fg where
 o:List ax
def qt (p:gY) (r:Fg):Prop:=r.o.map be=p.s.os.map be
noncomputable def kT (p:gY):IL:=((.cons 4 (.sy (.int 0 p.i)) (.cons 3 (.ptr 2 0) (.cons 2 (.ptr 1 0) (.cons 1 (.ptr 0 0) .nil)))),(.node (.node (.node .leaf (some (.prow 54 9 ax p.o aI)) .leaf) (some (.blk false 29 9 [[.nilS,.int 0 (.ofNat 0),.int 0 (.ofNat 0),.int 0 (.ofNat 0),.int 0 (.ofNat 0),.int 0 (.ofNat 0),.int 0 (.ofNat 0),.int 4 (.ofNat 0),.nilS]])) .leaf) (some (.blk false 37 9 [[.sy (.imm p.s.hg 3 aw p.s.gs aD),.sy (.int 0 p.s.clients),.sy (.int 0 p.s.window),.sy (.int 0 p.s.deadline),.sy (.int 0 p.s.pace),.sy (.int 0 p.s.again),.sy (.int 0 p.s.bag),.sy (.int 4 p.s.first),.sy (.imm p.s.ho 9 ax p.s.os aI)]])) (.node .leaf (some (.blk false 29 9 [[.sy (.imm p.hg 3 aw p.gs aD),.sy (.int 0 p.s.clients),.sy (.int 0 p.s.window),.sy (.int 0 p.s.deadline),.sy (.int 0 p.s.pace),.sy (.int 0 p.s.again),.sy (.int 0 p.s.bag),.sy (.int 4 p.s.first),.sy (.prow 3 p.o.length)]])) .leaf)),4)
noncomputable def rW (p:gY) (K:KC):Bool:=am fun r:Fg=>iP (qt p r) (K 2 (.cons 3 (.ptr 1 0) (.cons 2 (.ptr 0 0) .nil)) (.node (.node .leaf (some (.blk false 29 9 [[.sy (.imm p.hg 3 aw p.gs aD),.sy (.int 0 p.s.clients),.sy (.int 0 p.s.window),.sy (.int 0 p.s.deadline),.sy (.int 0 p.s.pace),.sy (.int 0 p.s.again),.sy (.int 0 p.s.bag),.sy (.int 4 p.s.first),.sy (.prow 2 r.o.length)]])) .leaf) (some (.blk false 29 9 [[.nilS,.int 0 (.ofNat 0),.int 0 (.ofNat 0),.int 0 (.ofNat 0),.int 0 (.ofNat 0),.int 0 (.ofNat 0),.int 0 (.ofNat 0),.int 4 (.ofNat 0),.nilS]])) (.node .leaf (some (.prow 54 9 ax r.o aI)) .leaf)) 3) true
def jZ (p:gY):Prop:=gT p.s.os∧0≤p.i∧p.i≤(p.s.os.length:Int)∧(p.o.length:Int)=p.i∧p.o.map be=(p.s.os.take p.i.toNat).map be
theorem Rg {p:gY} {K:KC} (hK:rW p K=true) (r:Fg) (h:qt p r):K 2 (.cons 3 (.ptr 1 0) (.cons 2 (.ptr 0 0) .nil)) (.node (.node .leaf (some (.blk false 29 9 [[.sy (.imm p.hg 3 aw p.gs aD),.sy (.int 0 p.s.clients),.sy (.int 0 p.s.window),.sy (.int 0 p.s.deadline),.sy (.int 0 p.s.pace),.sy (.int 0 p.s.again),.sy (.int 0 p.s.bag),.sy (.int 4 p.s.first),.sy (.prow 2 r.o.length)]])) .leaf) (some (.blk false 29 9 [[.nilS,.int 0 (.ofNat 0),.int 0 (.ofNat 0),.int 0 (.ofNat 0),.int 0 (.ofNat 0),.int 0 (.ofNat 0),.int 0 (.ofNat 0),.int 4 (.ofNat 0),.nilS]])) (.node .leaf (some (.prow 54 9 ax r.o aI)) .leaf)) 3=true:=au h (aG hK r)
noncomputable def uD (p:gY) (K:KC):Bool:=ac (aC (jZ p)) (rW p K)
noncomputable def CM:fE:=fun j S M nx K=>(Bool.rec (false) (aF fun p:gY=>ac (aC ((S,M,nx)=kT p)) (uD p K)) (Nat.beq j 0))
def jq (p:gY):Nat:=((p.s.os.length:Int) - p.i).toNat
noncomputable def Kp (s:IL) (n:Nat) (K:KC):Bool:=aF fun q=>mP (s=kT q∧jq q<n) (uD q K)
theorem TV {p q:gY} {K:KC} {s:IL} (hm:jq q<jq p) (hp:jZ q) (hK:rW q K=true) (e:s=kT q):Kp s (jq p) K=true:=aK q (ba ⟨e,hm⟩ (ba hp hK))
theorem Sa (p:gY) (K:KC) (hpre:jZ p) (hK:rW p K=true):(cO (fC vJ) CM 600 BN (kT p).1 (kT p).2.1 (kT p).2.2 (fun e S M nx=>Nat.casesOn e (aF fun q:gY=>ac (aC ((S,M,nx)=kT q∧jq q<jq p)) (uD q K)) (fun e2=>K (Nat.succ e2) S M nx)))=true:=by
 refine Eq.trans (b:=(iP (p.i<(p.s.os.length:Int)) (mP (0≤p.i∧p.i<(p.s.os.length:Int)) (am fun x1:ax=>iP (p.s.os[p.i.toNat]?=some x1) (aM (([.sy (.imm x1.hp 5 aB x1.ps encP)],.leaf,0)) uw oA qp fun p1 r1=>mP (((.int 0 x1.kind):SY)=(.int 0 x1.kind)) (mP (((.int 0 x1.x):SY)=(.int 0 x1.x)) (mP (((.int 0 x1.y):SY)=(.int 0 x1.y)) (mP (((.int 0 x1.i):SY)=(.int 0 x1.i)) (mP (((.int 0 x1.at_):SY)=(.int 0 x1.at_)) (mP (((.int 0 x1.mode):SY)=(.int 0 x1.mode)) (mP (((.int 3 x1.mask):SY)=(.int 3 x1.mask)) (mP (((.int 1 x1.grp):SY)=(.int 1 x1.grp)) (mP (((.prow 3 p.o.length):SY)=(.prow 3 p.o.length)) (mP (((.prow 3 p.o.length):SY)=(.prow 3 p.o.length)) (mP (p.o.length=p.o.length) (aF fun m1:List ax=>mP (iL (m1.map aI) [[.sint 0 x1.kind,.sint 0 x1.x,.sint 0 x1.y,.sint 0 x1.i,.sint 0 x1.at_,.sint 0 x1.mode,.sint 3 x1.mask,.sint 1 x1.grp,.imm r1.h 5 aB r1.o encP]]) (mP (eN 80 (p.o.length+m1.length)) (mP (bp 0 (p.i+(1:Int))) (Kp ((.cons 4 (.sy (.int 0 (p.i+(1:Int)))) (.cons 3 (.ptr 2 0) (.cons 2 (.ptr 1 0) (.cons 1 (.ptr 0 0) .nil)))),(.node (.node (.node .leaf (some (.prow 54 9 ax (p.o++m1) aI)) .leaf) (some (.blk false 29 9 [[.nilS,.int 0 (.ofNat 0),.int 0 (.ofNat 0),.int 0 (.ofNat 0),.int 0 (.ofNat 0),.int 0 (.ofNat 0),.int 0 (.ofNat 0),.int 4 (.ofNat 0),.nilS]])) .leaf) (some (.blk false 37 9 [[.sy (.imm p.s.hg 3 aw p.s.gs aD),.sy (.int 0 p.s.clients),.sy (.int 0 p.s.window),.sy (.int 0 p.s.deadline),.sy (.int 0 p.s.pace),.sy (.int 0 p.s.again),.sy (.int 0 p.s.bag),.sy (.int 4 p.s.first),.sy (.imm p.s.ho 9 ax p.s.os aI)]])) (.node .leaf (some (.blk false 29 9 [[.sy (.imm p.hg 3 aw p.gs aD),.sy (.int 0 p.s.clients),.sy (.int 0 p.s.window),.sy (.int 0 p.s.deadline),.sy (.int 0 p.s.pace),.sy (.int 0 p.s.again),.sy (.int 0 p.s.bag),.sy (.int 4 p.s.first),.sy (.prow 3 ((p.o++m1).length))]])) .leaf)),4) (jq p) K))))))))))))))) true)) (K 2 (.cons 3 (.ptr 1 0) (.cons 2 (.ptr 0 0) .nil)) (.node (.node .leaf (some (.blk false 29 9 [[.sy (.imm p.hg 3 aw p.gs aD),.sy (.int 0 p.s.clients),.sy (.int 0 p.s.window),.sy (.int 0 p.s.deadline),.sy (.int 0 p.s.pace),.sy (.int 0 p.s.again),.sy (.int 0 p.s.bag),.sy (.int 4 p.s.first),.sy (.prow 2 p.o.length)]])) .leaf) (some (.blk false 29 9 [[.nilS,.int 0 (.ofNat 0),.int 0 (.ofNat 0),.int 0 (.ofNat 0),.int 0 (.ofNat 0),.int 0 (.ofNat 0),.int 0 (.ofNat 0),.int 4 (.ofNat 0),.nilS]])) (.node .leaf (some (.prow 54 9 ax p.o aI)) .leaf)) 3))) (by kernel_rfl) ?_
 dsimp only[jZ]at hpre
 obtain⟨g0,g1,g2,g3,g4⟩:=hpre
 have g9:=g0.1
 refine iI (fun hc1=> ?_) (fun hc1=> ?_)
 refine er ?_
 refine az (fun x1=> ?_)
 refine iI (fun hi2=> ?_) (fun _=>rfl)
 have hm:=g0.2 _ x1 (by assumption)
 refine ay (⟨x1.hp,x1.ps⟩:nT) rfl (by(try dsimp only[oA]);omega) fun r1 hi3=> ?_
 dsimp only[qp]at hi3
 refine aL (aL (aL (aL (aL (aL (aL (aL (aL (aL (aL ?_))))))))))
 refine aK [({x1 with hp:=r1.h,ps:=r1.o}:ax)] ?_
 refine xS (mI (by(try dsimp only);(first|omega|(simp[eN]<;>omega))) ?_)
 refine bG ?_
 exact TV (q:=⟨p.s,p.hg,p.gs,p.o++[({x1 with hp:=r1.h,ps:=r1.o}:ax)],p.i+(1:Int)⟩) (by dsimp only[jq];omega) (by dsimp only[jZ];exact⟨g0,by omega,by omega,by simp;omega,VV (by omega) g4 (by assumption) (by simp only[be];rw[hi3])⟩) hK rfl
 exact Rg hK ⟨p.o⟩ (by dsimp only[qt]<;>exact VU g4 (by omega))
theorem Tl:dI Tryz.prog 28 0 CM true 0 BN:=by
 exact eM (lf:=600) bm (cK tw) (by rfl) kT jq uD (fun b j x h=>by cases h) (fun S M nx K h=>by obtain⟨p,h⟩:=bL h;exact⟨p,(aa h).1,(aa h).2⟩) (fun p K h=>Sa p K (aa h).1 (aa h).2)
structure wn where
 s:bN
structure Pc where
 t:bN
def wQ (p:wn) (r:Pc):Prop:=dX r.t=dX p.s
noncomputable def Du (p:wn):IE:=([.agg [.sy (.imm p.s.hg 3 aw p.s.gs aD),.sy (.int 0 p.s.clients),.sy (.int 0 p.s.window),.sy (.int 0 p.s.deadline),.sy (.int 0 p.s.pace),.sy (.int 0 p.s.again),.sy (.int 0 p.s.bag),.sy (.int 4 p.s.first),.sy (.imm p.s.ho 9 ax p.s.os aI)]],.leaf,0)
noncomputable def Ec (p:wn) (K:KE):Bool:=am fun r:Pc=>iP (wQ p r) (K (.agg [.sy (.imm r.t.hg 3 aw r.t.gs aD),.sy (.int 0 r.t.clients),.sy (.int 0 r.t.window),.sy (.int 0 r.t.deadline),.sy (.int 0 r.t.pace),.sy (.int 0 r.t.again),.sy (.int 0 r.t.bag),.sy (.int 4 r.t.first),.sy (.imm r.t.ho 9 ax r.t.os aI)]) .leaf 0) true
def tO (p:wn):Prop:=gT p.s.os∧p.s.gs.length≤10
theorem Wy {p:wn} {K:KE} (hK:Ec p K=true) (r:Pc) (h:wQ p r):K (.agg [.sy (.imm r.t.hg 3 aw r.t.gs aD),.sy (.int 0 r.t.clients),.sy (.int 0 r.t.window),.sy (.int 0 r.t.deadline),.sy (.int 0 r.t.pace),.sy (.int 0 r.t.again),.sy (.int 0 r.t.bag),.sy (.int 4 r.t.first),.sy (.imm r.t.ho 9 ax r.t.os aI)]) .leaf 0=true:=au h (aG hK r)
theorem Xc (p:wn) (K:KE) (hpre:tO p) (hK:Ec p K=true):(bW 0 (fC vJ) CM 600 QX (Du p).1 (Du p).2.1 (Du p).2.2 K)=true:=by
 refine Eq.trans (b:=(aM (([.agg [.sy (.imm p.s.hg 3 aw p.s.gs aD),.sy (.int 0 p.s.clients),.sy (.int 0 p.s.window),.sy (.int 0 p.s.deadline),.sy (.int 0 p.s.pace),.sy (.int 0 p.s.again),.sy (.int 0 p.s.bag),.sy (.int 4 p.s.first)]],.leaf,0)) yJ qo tS fun p1 r1=>mP ((.nilS:AV)=(.nilS:AV)) (aM (((.cons 4 (.sy (.int 0 0)) (.cons 3 (.ptr 2 0) (.cons 2 (.ptr 1 0) (.cons 1 (.ptr 0 0) .nil)))),(.node (.node (.node .leaf (some (.prow 54 9 ax ([]:List ax) aI)) .leaf) (some (.blk false 29 9 [[.nilS,.int 0 (.ofNat 0),.int 0 (.ofNat 0),.int 0 (.ofNat 0),.int 0 (.ofNat 0),.int 0 (.ofNat 0),.int 0 (.ofNat 0),.int 4 (.ofNat 0),.nilS]])) .leaf) (some (.blk false 37 9 [[.sy (.imm p.s.hg 3 aw p.s.gs aD),.sy (.int 0 p.s.clients),.sy (.int 0 p.s.window),.sy (.int 0 p.s.deadline),.sy (.int 0 p.s.pace),.sy (.int 0 p.s.again),.sy (.int 0 p.s.bag),.sy (.int 4 p.s.first),.sy (.imm p.s.ho 9 ax p.s.os aI)]])) (.node .leaf (some (.blk false 29 9 [[.sy (.imm r1.h 3 aw r1.o aD),.sy (.int 0 p1.clients),.sy (.int 0 p1.window),.sy (.int 0 p1.deadline),.sy (.int 0 p1.pace),.sy (.int 0 p1.again),.sy (.int 0 p1.bag),.sy (.int 4 p1.first),.sy (.prow 3 0)]])) .leaf)),4)) kT jZ qt fun p2 r2=>mP (r2.o.length=r2.o.length) (am fun h1:Value=>mP ((.sy (.prow 2 r2.o.length):AV)=(.sy (.prow 2 r2.o.length):AV)) (K (.agg [.sy (.imm p2.hg 3 aw p2.gs aD),.sy (.int 0 p2.s.clients),.sy (.int 0 p2.s.window),.sy (.int 0 p2.s.deadline),.sy (.int 0 p2.s.pace),.sy (.int 0 p2.s.again),.sy (.int 0 p2.s.bag),.sy (.int 4 p2.s.first),.sy (.imm h1 9 ax r2.o aI)]) .leaf 0))))) (by kernel_rfl) ?_
 dsimp only[tO]at hpre
 have q2:=hpre.2
 refine ay (⟨p.s.hg,p.s.gs,p.s.clients,p.s.window,p.s.deadline,p.s.pace,p.s.again,p.s.bag,p.s.first⟩:rF) rfl (by(try dsimp only[qo]);omega) fun r1 hi1=> ?_
 dsimp only[tS]at hi1
 refine aL ?_
 refine ay (⟨p.s,r1.h,r1.o,([]:List ax),(0:Int)⟩:gY) rfl (by(try dsimp only[jZ]);exact⟨hpre.1,by omega,by omega,by simp,by simp⟩) fun r2 hi2=> ?_
 dsimp only[qt]at hi2
 refine aL ?_
 refine az (fun h1=> ?_)
 refine aL ?_
 exact Wy hK ⟨({p.s with hg:=r1.h,gs:=r1.o,ho:=h1,os:=r2.o}:bN)⟩ (by dsimp only[wQ]<;>(simp only[dX];rw[hi1,hi2]))
noncomputable def zb:=bt vJ 0 (bJ Du (dr tO Ec)) 10 [(0,15)]
theorem vA:aV Tryz.prog zb:=aR (bU (f:=10) (k:=0) (lp:=CM) (lf:=600) bm (cK tw) QW (by rfl) (fun b j x h=>(cy Tl (fun h=>(by cases h)) h)) fun p K h=>Xc p K (aa h).1 (aa h).2) tw
def tF:XC:=(.aft (.seq (g_ 1 [p_ 0 14 (.bin 3 0 (.t 13) (.t 12))]) (.seq (.cond (.t 14) .skip (.exit 2)) (.seq (.block 3 (.seq (g_ 2 [p_ 0 15 (m_ 13),p_ 1 5 (m_ 15)]) (.seq (h_ 9 [p_ 0 16 (m_ 0),p_ 1 17 (m_ 5),p_ 2 18 (.ixs 3 (.t 16) (.t 17)),r_ 3 19 (.ld true 3 (.t 18)),p_ 4 20 (m_ 1),p_ 5 21 (m_ 5),p_ 6 22 (.ixs 3 (.t 20) (.t 21)),r_ 7 23 (.ld true 3 (.t 22)),p_ 8 24 (.eqs true 2 (.st [(0,1,false,.int),(1,1,false,.int),(2,1,false,.bool)]) (.t 19) (.t 23))]) (.cond (.t 24) (.seq (g_ 1 [p_ 0 4 (.mv (.c (.bool false)))]) .ret) .skip)))) (g_ 2 [p_ 0 25 (.bin 0 0 (.t 13) (i_ 1)),p_ 1 13 (m_ 25)])))) [(0,[.can 0 [0,1,12,13]]),(1,[.can 0 [4]]),(2,[.can 0 []])])
def Gi:XF:=.mk 26 (.one 4) (.aft (.seq (g_ 1 [p_ 0 4 (.mv (.c (.bool false)))]) (.seq (.seq (g_ 5 [p_ 0 6 (m_ 0),p_ 1 7 (k_ 6),p_ 2 8 (m_ 1),p_ 3 9 (k_ 8),p_ 4 10 (.bin 3 5 (.t 7) (.t 9))]) (.cond (.t 10) (.seq (g_ 1 [p_ 0 4 (.mv (.c (.bool false)))]) .ret) .skip)) (.seq (.seq (g_ 3 [p_ 0 11 (m_ 0),p_ 1 12 (k_ 11),p_ 2 13 (.mv (i_ 0))]) (.block 2 (.pre [.can 0 [0,1,12,13],.up 12,.up 13,.can 0 [0,1,12,13]] (.inv 0 tF)))) (.seq (g_ 1 [p_ 0 4 (.mv (.c (.bool true)))]) .ret)))) [(0,[.up 4]),(1,[.up 4])])
theorem JG:bE Tryz.prog 72 Gi=true:=by kernel_rfl
structure dU where
 h1:Value
 l1:List aw
 h2:Value
 l2:List aw
 i:Int
def zY (p:dU):Prop:=p.l1=p.l2
def wT (p:dU):Prop:=¬p.l1=p.l2
noncomputable def gu (p:dU):IL:=((.cons 13 (.sy (.int 0 p.i)) (.cons 12 (.sy (.int 0 (p.l1.length:Int))) (.cons 1 (.sy (.imm p.h2 3 aw p.l2 aD)) (.cons 0 (.sy (.imm p.h1 3 aw p.l1 aD)) .nil)))),.leaf,0)
noncomputable def qz (p:dU) (K:KC):Bool:=ac (iP (zY p) (K 2 .nil .leaf 0) true) (iP (wT p) (K 1 (.cons 4 (.bool false) .nil) .leaf 0) true)
def gL (p:dU):Prop:=p.l1.length=p.l2.length∧0≤p.i∧p.i≤(p.l1.length:Int)∧p.l1.length≤1000000∧(p.l1.take p.i.toNat).map id=(p.l2.take p.i.toNat).map id
noncomputable def og (p:dU) (K:KC):Bool:=ac (aC (gL p)) (qz p K)
noncomputable def ss:fE:=fun j S M nx K=>(Bool.rec (false) (aF fun p:dU=>ac (aC ((S,M,nx)=gu p)) (og p K)) (Nat.beq j 0))
def eE (p:dU):Nat:=((p.l1.length:Int) - p.i).toNat
noncomputable def tG (s:IL) (n:Nat) (K:KC):Bool:=aF fun q=>mP (s=gu q∧eE q<n) (og q K)
theorem As {p q:dU} {K:KC} {s:IL} (hm:eE q<eE p:=by dsimp only[eE]<;>(omega)) (hp:gL q:=by dsimp only[gL]<;>(refine⟨g0,by omega,by omega,g3,lS (by omega) g4 hi2 hi3 ?_⟩;show x1=x2;obtain⟨⟩:=x1;obtain⟨⟩:=x2;simp_all)) (hK:qz q K=true:=by exact hK) (e:s=gu q:=by rfl):tG s (eE p) K=true:=aK q (ba ⟨e,hm⟩ (ba hp hK))
theorem KS (p:dU) (K:KC) (hpre:gL p) (hK:qz p K=true):(cO (fC zb) ss 600 tF (gu p).1 (gu p).2.1 (gu p).2.2 (fun e S M nx=>Nat.casesOn e (aF fun q:dU=>ac (aC ((S,M,nx)=gu q∧eE q<eE p)) (og q K)) (fun e2=>K (Nat.succ e2) S M nx)))=true:=by
 refine Eq.trans (b:=(let z0:Bool:=(K 1 (.cons 4 (.bool false) .nil) .leaf 0);iP (p.i<(p.l1.length:Int)) (mP (0≤p.i∧p.i<(p.l1.length:Int)) (am fun x1:aw=>iP (p.l1[p.i.toNat]?=some x1) (mP (0≤p.i∧p.i<(p.l2.length:Int)) (am fun x2:aw=>iP (p.l2[p.i.toNat]?=some x2) (iP (x1.f=x2.f) (iP (x1.s=x2.s) (iP (x1.c) (iP (x2.c) (mP (bp 0 (p.i+(1:Int))) (tG ((.cons 13 (.sy (.int 0 (p.i+(1:Int)))) (.cons 12 (.sy (.int 0 (p.l1.length:Int))) (.cons 1 (.sy (.imm p.h2 3 aw p.l2 aD)) (.cons 0 (.sy (.imm p.h1 3 aw p.l1 aD)) .nil)))),.leaf,0) (eE p) K)) z0) (iP (x2.c) z0 (mP (bp 0 (p.i+(1:Int))) (tG ((.cons 13 (.sy (.int 0 (p.i+(1:Int)))) (.cons 12 (.sy (.int 0 (p.l1.length:Int))) (.cons 1 (.sy (.imm p.h2 3 aw p.l2 aD)) (.cons 0 (.sy (.imm p.h1 3 aw p.l1 aD)) .nil)))),.leaf,0) (eE p) K)))) z0) z0) true)) true)) (K 2 .nil .leaf 0))) (by kernel_rfl) ?_
 obtain⟨hK0,hKr0⟩:=ai hK
 have hK1:=hKr0
 dsimp only[gL]at hpre
 obtain⟨g0,g1,g2,g3,g4⟩:=hpre
 refine iI (fun hc1=> ?_) (fun hc1=> ?_)
 refine er ?_
 refine az (fun x1=> ?_)
 refine iI (fun hi2=> ?_) (fun _=>rfl)
 refine er ?_
 refine az (fun x2=> ?_)
 refine iI (fun hi3=> ?_) (fun _=>rfl)
 refine iI (fun hc4=> ?_) (fun hc4=> ?_)
 refine iI (fun hc5=> ?_) (fun hc5=> ?_)
 refine iI (fun hc6=> ?_) (fun hc6=> ?_)
 refine iI (fun hc7=> ?_) (fun hc7=> ?_)
 refine bG ?_
 exact As (q:=⟨p.h1,p.l1,p.h2,p.l2,p.i+(1:Int)⟩)
 exact au (show¬p.l1=p.l2 from(by intro e;rw[e]at hi2;have e2:=acY (hi2.symm.trans hi3);subst e2;first|contradiction|omega|simp_all)) hK1
 refine iI (fun hc8=> ?_) (fun hc8=> ?_)
 exact au (show¬p.l1=p.l2 from(by intro e;rw[e]at hi2;have e2:=acY (hi2.symm.trans hi3);subst e2;first|contradiction|omega|simp_all)) hK1
 refine bG ?_
 exact As (q:=⟨p.h1,p.l1,p.h2,p.l2,p.i+(1:Int)⟩)
 exact au (show¬p.l1=p.l2 from(by intro e;rw[e]at hi2;have e2:=acY (hi2.symm.trans hi3);subst e2;first|contradiction|omega|simp_all)) hK1
 exact au (show¬p.l1=p.l2 from(by intro e;rw[e]at hi2;have e2:=acY (hi2.symm.trans hi3);subst e2;first|contradiction|omega|simp_all)) hK1
 exact au (show p.l1=p.l2 from(by have e:=nn g4 (by omega) (by omega);simpa using e)) hK0
theorem La:dI Tryz.prog 26 0 ss true 0 tF:=by
 exact eM (lf:=600) bm (cK vA) (by rfl) gu eE og (fun b j x h=>by cases h) (fun S M nx K h=>by obtain⟨p,h⟩:=bL h;exact⟨p,(aa h).1,(aa h).2⟩) (fun p K h=>KS p K (aa h).1 (aa h).2)
structure lQ where
 h1:Value
 l1:List aw
 h2:Value
 l2:List aw
structure Ce where
 q:Prop
def kr (p:lQ) (r:Ce):Prop:=r.q↔p.l1=p.l2
noncomputable def rv (p:lQ):IE:=([.sy (.imm p.h1 3 aw p.l1 aD),.sy (.imm p.h2 3 aw p.l2 aD)],.leaf,0)
noncomputable def vj (p:lQ) (K:KE):Bool:=am fun r:Ce=>iP (kr p r) (K (.sy (.bool r.q)) .leaf 0) true
def mL (p:lQ):Prop:=p.l1.length≤1000000∧p.l2.length≤1000000
theorem wb {p:lQ} {K:KE} (hK:vj p K=true) (r:Ce) (h:kr p r):K (.sy (.bool r.q)) .leaf 0=true:=au h (aG hK r)
theorem Py (p:lQ) (K:KE) (hpre:mL p) (hK:vj p K=true):(bW 0 (fC zb) ss 600 Gi (rv p).1 (rv p).2.1 (rv p).2.2 K)=true:=by
 refine Eq.trans (b:=(iP (¬(p.l1.length:Int)=(p.l2.length:Int)) (K (.sy (.bool (false=true))) .leaf 0) (aF fun p1:dU=>mP (((.cons 13 (.sy (.int 0 0)) (.cons 12 (.sy (.int 0 (p.l1.length:Int))) (.cons 1 (.sy (.imm p.h2 3 aw p.l2 aD)) (.cons 0 (.sy (.imm p.h1 3 aw p.l1 aD)) .nil)))),.leaf,0)=gu p1) (mP (gL p1) (ac (iP (zY p1) (K (.sy (.bool (true=true))) .leaf 0) true) (iP (wT p1) (K (.sy (.bool (false=true))) .leaf 0) true)))))) (by kernel_rfl) ?_
 dsimp only[mL]at hpre
 obtain⟨u1,u2⟩:=hpre
 refine iI (fun hc1=> ?_) (fun hc1=> ?_)
 exact wb hK ⟨false=true⟩ (by dsimp only[kr]<;>(first|(simp;done)|(simp;assumption)|(simp;intro e;exact hc1 (by rw[e]))|simp_all))
 refine dx (⟨p.h1,p.l1,p.h2,p.l2,(0:Int)⟩:dU) rfl (by(try dsimp only[gL]);refine⟨by omega,by omega,by omega,by omega,rfl⟩) ?_
 refine aE ?_ ?_
 refine iI (p:=p.l1=p.l2) (fun hi2=> ?_) (fun _=>rfl)
 exact wb hK ⟨true=true⟩ (by dsimp only[kr]<;>(first|(simp;done)|(simp;assumption)|(simp;intro e;exact hc1 (by rw[e]))|simp_all))
 refine iI (p:=¬p.l1=p.l2) (fun hi3=> ?_) (fun _=>rfl)
 exact wb hK ⟨false=true⟩ (by dsimp only[kr]<;>(first|(simp;done)|(simp;assumption)|(simp;intro e;exact hc1 (by rw[e]))|simp_all))
noncomputable def vI:=bt zb 0 (bJ rv (dr mL vj)) 72 [(0,23),(1,23)]
theorem wD:aV Tryz.prog vI:=aR (bU (f:=72) (k:=0) (lp:=ss) (lf:=600) bm (cK vA) JG (by rfl) (fun b j x h=>(cy La (fun h=>(by cases h)) h)) fun p K h=>Py p K (aa h).1 (aa h).2) vA
def Ga:XF:=.mk 66 (.one 4) (.aft (.seq (g_ 3 [e_ 0 2 (.box 54 (.t 0)),e_ 1 3 (.box 54 (.t 1)),p_ 2 4 (.mv (.c (.bool false)))]) (.seq (g_ 62 [p_ 0 5 (f_ 0 2),r_ 1 6 (l_ 5),p_ 2 7 (f_ 0 3),r_ 3 8 (l_ 7),p_ 4 9 (.bin 3 4 (.t 6) (.t 8)),p_ 5 10 (m_ 9),aj 6 11 10 true (f_ 1 2),aT 7 12 10 true (l_ 11),aj 8 13 10 true (f_ 1 3),aT 9 14 10 true (l_ 13),aj 10 15 10 true (.bin 3 4 (.t 12) (.t 14)),p_ 11 16 (.pick (.t 10) (.t 15) (.c (.bool false))),p_ 12 17 (m_ 16),aj 13 18 17 true (f_ 2 2),aT 14 19 17 true (l_ 18),aj 15 20 17 true (f_ 2 3),aT 16 21 17 true (l_ 20),aj 17 22 17 true (.bin 3 4 (.t 19) (.t 21)),p_ 18 23 (.pick (.t 17) (.t 22) (.c (.bool false))),p_ 19 24 (m_ 23),aj 20 25 24 true (f_ 3 2),aT 21 26 24 true (l_ 25),aj 22 27 24 true (f_ 3 3),aT 23 28 24 true (l_ 27),aj 24 29 24 true (.bin 3 4 (.t 26) (.t 28)),p_ 25 30 (.pick (.t 24) (.t 29) (.c (.bool false))),p_ 26 31 (m_ 30),aj 27 32 31 true (f_ 4 2),aT 28 33 31 true (l_ 32),aj 29 34 31 true (f_ 4 3),aT 30 35 31 true (l_ 34),aj 31 36 31 true (.bin 3 4 (.t 33) (.t 35)),p_ 32 37 (.pick (.t 31) (.t 36) (.c (.bool false))),p_ 33 38 (m_ 37),aj 34 39 38 true (f_ 5 2),aT 35 40 38 true (l_ 39),aj 36 41 38 true (f_ 5 3),aT 37 42 38 true (l_ 41),aj 38 43 38 true (.bin 3 4 (.t 40) (.t 42)),p_ 39 44 (.pick (.t 38) (.t 43) (.c (.bool false))),p_ 40 45 (m_ 44),aj 41 46 45 true (f_ 6 2),aT 42 47 45 true (l_ 46),aj 43 48 45 true (f_ 6 3),aT 44 49 45 true (l_ 48),aj 45 50 45 true (.bin 3 4 (.t 47) (.t 49)),p_ 46 51 (.pick (.t 45) (.t 50) (.c (.bool false))),p_ 47 52 (m_ 51),aj 48 53 52 true (f_ 7 2),aT 49 54 52 true (l_ 53),aj 50 55 52 true (f_ 7 3),aT 51 56 52 true (l_ 55),aj 52 57 52 true (.bin 3 4 (.t 54) (.t 56)),p_ 53 58 (.pick (.t 52) (.t 57) (.c (.bool false))),p_ 54 59 (m_ 58),aj 55 60 59 true (f_ 8 2),aT 56 61 59 true (l_ 60),aj 57 62 59 true (f_ 8 3),aT 58 63 59 true (l_ 62),fX 59 64 59 true 73 [.t 61,.t 63],p_ 60 65 (.pick (.t 59) (.t 64) (.c (.bool false))),p_ 61 4 (m_ 65)]) .ret)) [(0,[.up 4]),(1,[.up 4])])
theorem Jk:bE Tryz.prog 43 Ga=true:=by kernel_rfl
structure lM where
 x:ax
 y:ax
structure BV where
 q:Prop
def ek (p:lM) (r:BV):Prop:=r.q↔be p.x=be p.y
noncomputable def rp (p:lM):IE:=([.agg [.sy (.int 0 p.x.kind),.sy (.int 0 p.x.x),.sy (.int 0 p.x.y),.sy (.int 0 p.x.i),.sy (.int 0 p.x.at_),.sy (.int 0 p.x.mode),.sy (.int 3 p.x.mask),.sy (.int 1 p.x.grp),.sy (.imm p.x.hp 5 aB p.x.ps encP)],.agg [.sy (.int 0 p.y.kind),.sy (.int 0 p.y.x),.sy (.int 0 p.y.y),.sy (.int 0 p.y.i),.sy (.int 0 p.y.at_),.sy (.int 0 p.y.mode),.sy (.int 3 p.y.mask),.sy (.int 1 p.y.grp),.sy (.imm p.y.hp 5 aB p.y.ps encP)]],.leaf,0)
noncomputable def uX (p:lM) (K:KE):Bool:=am fun r:BV=>iP (ek p r) (K (.sy (.bool r.q)) .leaf 0) true
def mG (p:lM):Prop:=p.x.ps.length≤1000000∧p.y.ps.length≤1000000
theorem gk {p:lM} {K:KE} (hK:uX p K=true) (r:BV) (h:ek p r):K (.sy (.bool r.q)) .leaf 0=true:=au h (aG hK r)
theorem Pq (p:lM) (K:KE) (hpre:mG p) (hK:uX p K=true):(bW 0 (fC vI) cL 600 Ga (rp p).1 (rp p).2.1 (rp p).2.2 K)=true:=by
 refine Eq.trans (b:=(let z0:Bool:=(K (.sy (.bool (false=true))) .leaf 0);iP (p.x.kind=p.y.kind) (iP (p.x.x=p.y.x) (iP (p.x.y=p.y.y) (iP (p.x.i=p.y.i) (iP (p.x.at_=p.y.at_) (iP (p.x.mode=p.y.mode) (iP (p.x.mask=p.y.mask) (iP (p.x.grp=p.y.grp) (aM (([.sy (.imm p.x.hp 5 aB p.x.ps encP),.sy (.imm p.y.hp 5 aB p.y.ps encP)],.leaf,0)) nR jj ib fun p1 r1=>K (.sy (.bool r1.q)) .leaf 0) z0) z0) z0) z0) z0) z0) z0) z0)) (by kernel_rfl) ?_
 dsimp only[mG]at hpre
 obtain⟨u1,u2⟩:=hpre
 refine iI (fun hc1=> ?_) (fun hc1=> ?_)
 refine iI (fun hc2=> ?_) (fun hc2=> ?_)
 refine iI (fun hc3=> ?_) (fun hc3=> ?_)
 refine iI (fun hc4=> ?_) (fun hc4=> ?_)
 refine iI (fun hc5=> ?_) (fun hc5=> ?_)
 refine iI (fun hc6=> ?_) (fun hc6=> ?_)
 refine iI (fun hc7=> ?_) (fun hc7=> ?_)
 refine iI (fun hc8=> ?_) (fun hc8=> ?_)
 refine ay (⟨p.x.hp,p.x.ps,p.y.hp,p.y.ps⟩:kH) rfl (by(try dsimp only[jj]);omega) fun r1 hi9=> ?_
 dsimp only[ib]at hi9
 exact gk hK ⟨r1.q⟩ (by dsimp only[ek]<;>(simp only[be,ac9];simp_all))
 exact gk hK ⟨false=true⟩ (by dsimp only[ek]<;>(simp only[be,ac9];simp_all))
 exact gk hK ⟨false=true⟩ (by dsimp only[ek]<;>(simp only[be,ac9];simp_all))
 exact gk hK ⟨false=true⟩ (by dsimp only[ek]<;>(simp only[be,ac9];simp_all))
 exact gk hK ⟨false=true⟩ (by dsimp only[ek]<;>(simp only[be,ac9];simp_all))
 exact gk hK ⟨false=true⟩ (by dsimp only[ek]<;>(simp only[be,ac9];simp_all))
 exact gk hK ⟨false=true⟩ (by dsimp only[ek]<;>(simp only[be,ac9];simp_all))
 exact gk hK ⟨false=true⟩ (by dsimp only[ek]<;>(simp only[be,ac9];simp_all))
 exact gk hK ⟨false=true⟩ (by dsimp only[ek]<;>(simp only[be,ac9];simp_all))
noncomputable def pw:=bt vI 0 (bJ rp (dr mG uX)) 43 [(0,15),(1,15)]
theorem oV:aV Tryz.prog pw:=aR (vK (f:=43) (k:=0) (cK wD) Jk (by rfl) (by rfl) Pq) wD
def BR:XC:=(.aft (.seq (g_ 1 [p_ 0 18 (.bin 3 0 (.t 17) (.t 16))]) (.seq (.cond (.t 18) .skip (.exit 2)) (.seq (.block 3 (.seq (g_ 6 [p_ 0 19 (m_ 17),p_ 1 20 (.ixs 9 (.t 15) (.t 17)),r_ 2 21 (.ld true 9 (.t 20)),e_ 3 8 (.al 54 [.int 0 (.ofNat 0),.int 0 (.ofNat 0),.int 0 (.ofNat 0),.int 0 (.ofNat 0),.int 0 (.ofNat 0),.int 0 (.ofNat 0),.int 3 (.ofNat 0),.int 1 (.ofNat 0),.nilS]),p_ 4 7 (m_ 19),bl 5 (.st 9 (.t 8) (.t 21))]) (.seq (g_ 6 [p_ 0 22 (m_ 1),p_ 1 23 (m_ 7),p_ 2 24 (.ixs 9 (.t 22) (.t 23)),r_ 3 25 (.ld true 9 (.t 24)),e_ 4 9 (.al 54 [.int 0 (.ofNat 0),.int 0 (.ofNat 0),.int 0 (.ofNat 0),.int 0 (.ofNat 0),.int 0 (.ofNat 0),.int 0 (.ofNat 0),.int 3 (.ofNat 0),.int 1 (.ofNat 0),.nilS]),bl 5 (.st 9 (.t 9) (.t 25))]) (.seq (g_ 5 [p_ 0 26 (m_ 2),r_ 1 27 (.ld true 9 (.t 8)),r_ 2 28 (.ld true 9 (.t 9)),.k 3 (some 29) none 26 [43] [.t 27,.t 28],p_ 4 30 (.un 0 (.t 29))]) (.cond (.t 30) (.seq (g_ 1 [p_ 0 6 (.mv (.c (.bool false)))]) .ret) .skip))))) (g_ 2 [p_ 0 31 (.bin 0 0 (.t 17) (i_ 1)),p_ 1 17 (m_ 31)])))) [(0,[.can 0 [1,2,15,16,17]]),(1,[.can 0 [6]]),(2,[.can 0 []])])
def Re:XF:=.mk 32 (.one 6) (.aft (.seq (g_ 1 [p_ 0 6 (.mv (.c (.bool false)))]) (.seq (.seq (g_ 5 [p_ 0 10 (m_ 0),p_ 1 11 (k_ 10),p_ 2 12 (m_ 1),p_ 3 13 (k_ 12),p_ 4 14 (.bin 3 5 (.t 11) (.t 13))]) (.cond (.t 14) (.seq (g_ 1 [p_ 0 6 (.mv (.c (.bool false)))]) .ret) .skip)) (.seq (.seq (g_ 3 [p_ 0 15 (m_ 0),p_ 1 16 (k_ 15),p_ 2 17 (.mv (i_ 0))]) (.block 2 (.pre [.can 0 [1,2,15,16,17],.up 16,.up 17,.can 0 [1,2,15,16,17]] (.inv 0 BR)))) (.seq (g_ 1 [p_ 0 6 (.mv (.c (.bool true)))]) .ret)))) [(0,[.up 6]),(1,[.up 6])])
theorem Rc:bE Tryz.prog 42 Re=true:=by kernel_rfl
structure gF where
 h1:Value
 l1:List ax
 h2:Value
 l2:List ax
 i:Int
def HQ (p:gF):Prop:=p.l1.map be=p.l2.map be
def Fy (p:gF):Prop:=¬p.l1.map be=p.l2.map be
noncomputable def kX (p:gF):IL:=((.cons 17 (.sy (.int 0 p.i)) (.cons 16 (.sy (.int 0 (p.l1.length:Int))) (.cons 15 (.sy (.imm p.h1 9 ax p.l1 aI)) (.cons 2 (.fn 43 []) (.cons 1 (.sy (.imm p.h2 9 ax p.l2 aI)) .nil))))),.leaf,0)
noncomputable def xu (p:gF) (K:KC):Bool:=ac (iP (HQ p) (K 2 .nil .leaf 0) true) (iP (Fy p) (K 1 (.cons 6 (.bool false) .nil) .leaf 0) true)
def kg (p:gF):Prop:=p.l1.length=p.l2.length∧0≤p.i∧p.i≤(p.l1.length:Int)∧gT p.l1∧gT p.l2∧(p.l1.take p.i.toNat).map be=(p.l2.take p.i.toNat).map be
noncomputable def uJ (p:gF) (K:KC):Bool:=ac (aC (kg p)) (xu p K)
noncomputable def CO:fE:=fun j S M nx K=>(Bool.rec (false) (aF fun p:gF=>ac (aC ((S,M,nx)=kX p)) (uJ p K)) (Nat.beq j 0))
def jt (p:gF):Nat:=((p.l1.length:Int) - p.i).toNat
noncomputable def Kt (s:IL) (n:Nat) (K:KC):Bool:=aF fun q=>mP (s=kX q∧jt q<n) (uJ q K)
theorem TZ {p q:gF} {K:KC} {s:IL} (hm:jt q<jt p:=by dsimp only[jt]<;>(omega)) (hp:kg q:=by dsimp only[kg]<;>(refine⟨g0,by omega,by omega,g3,g4,lS (by omega) g5 hi2 hi3 (by simp_all)⟩)) (hK:xu q K=true:=by exact hK) (e:s=kX q:=by rfl):Kt s (jt p) K=true:=aK q (ba ⟨e,hm⟩ (ba hp hK))
theorem Se (p:gF) (K:KC) (hpre:kg p) (hK:xu p K=true):(cO (fC pw) CO 600 BR (kX p).1 (kX p).2.1 (kX p).2.2 (fun e S M nx=>Nat.casesOn e (aF fun q:gF=>ac (aC ((S,M,nx)=kX q∧jt q<jt p)) (uJ q K)) (fun e2=>K (Nat.succ e2) S M nx)))=true:=by
 refine Eq.trans (b:=(iP (p.i<(p.l1.length:Int)) (mP (0≤p.i∧p.i<(p.l1.length:Int)) (am fun x1:ax=>iP (p.l1[p.i.toNat]?=some x1) (mP (0≤p.i∧p.i<(p.l2.length:Int)) (am fun x2:ax=>iP (p.l2[p.i.toNat]?=some x2) (aM (([.agg [.sy (.int 0 x1.kind),.sy (.int 0 x1.x),.sy (.int 0 x1.y),.sy (.int 0 x1.i),.sy (.int 0 x1.at_),.sy (.int 0 x1.mode),.sy (.int 3 x1.mask),.sy (.int 1 x1.grp),.sy (.imm x1.hp 5 aB x1.ps encP)],.agg [.sy (.int 0 x2.kind),.sy (.int 0 x2.x),.sy (.int 0 x2.y),.sy (.int 0 x2.i),.sy (.int 0 x2.at_),.sy (.int 0 x2.mode),.sy (.int 3 x2.mask),.sy (.int 1 x2.grp),.sy (.imm x2.hp 5 aB x2.ps encP)]],.leaf,0)) rp mG ek fun p1 r1=>iP (¬r1.q) (K 1 (.cons 6 (.bool false) .nil) .leaf 0) (mP (bp 0 (p.i+(1:Int))) (Kt ((.cons 17 (.sy (.int 0 (p.i+(1:Int)))) (.cons 16 (.sy (.int 0 (p.l1.length:Int))) (.cons 15 (.sy (.imm p.h1 9 ax p.l1 aI)) (.cons 2 (.fn 43 []) (.cons 1 (.sy (.imm p.h2 9 ax p.l2 aI)) .nil))))),.leaf,0) (jt p) K))) true)) true)) (K 2 .nil .leaf 0))) (by kernel_rfl) ?_
 obtain⟨hK0,hKr0⟩:=ai hK
 have hK1:=hKr0
 dsimp only[kg]at hpre
 obtain⟨g0,g1,g2,g3,g4,g5⟩:=hpre
 have g8:=g3.1
 refine iI (fun hc1=> ?_) (fun hc1=> ?_)
 refine er ?_
 refine az (fun x1=> ?_)
 refine iI (fun hi2=> ?_) (fun _=>rfl)
 first|have hm_x1:=g3.2 _ x1 (by assumption)|have hm_x1:=g4.2 _ x1 (by assumption)
 refine er ?_
 refine az (fun x2=> ?_)
 refine iI (fun hi3=> ?_) (fun _=>rfl)
 first|have hm_x2:=g3.2 _ x2 (by assumption)|have hm_x2:=g4.2 _ x2 (by assumption)
 refine ay (⟨x1,x2⟩:lM) rfl (by(try dsimp only[mG]);refine⟨?_,?_⟩<;>first|omega|(rw[hi3];omega)) fun r1 hi4=> ?_
 dsimp only[ek]at hi4
 refine iI (fun hc5=> ?_) (fun hc5=> ?_)
 exact au (show¬p.l1.map be=p.l2.map be from(by exact LH hi2 hi3 (fun e=>by simp_all))) hK1
 refine bG ?_
 exact TZ (q:=⟨p.h1,p.l1,p.h2,p.l2,p.i+(1:Int)⟩)
 exact au (show p.l1.map be=p.l2.map be from(by exact nn g5 (by omega) (by omega))) hK0
theorem Tp:dI Tryz.prog 32 0 CO true 0 BR:=by
 exact eM (lf:=600) bm (cK oV) (by rfl) kX jt uJ (fun b j x h=>by cases h) (fun S M nx K h=>by obtain⟨p,h⟩:=bL h;exact⟨p,(aa h).1,(aa h).2⟩) (fun p K h=>Se p K (aa h).1 (aa h).2)
structure wq where
 h1:Value
 l1:List ax
 h2:Value
 l2:List ax
structure Pf where
 q:Prop
def qu (p:wq) (r:Pf):Prop:=r.q↔p.l1.map be=p.l2.map be
noncomputable def Dx (p:wq):IE:=([.sy (.imm p.h1 9 ax p.l1 aI),.sy (.imm p.h2 9 ax p.l2 aI),.fn 43 []],.leaf,0)
noncomputable def Ed (p:wq) (K:KE):Bool:=am fun r:Pf=>iP (qu p r) (K (.sy (.bool r.q)) .leaf 0) true
def tP (p:wq):Prop:=gT p.l1∧gT p.l2
theorem EF {p:wq} {K:KE} (hK:Ed p K=true) (r:Pf) (h:qu p r):K (.sy (.bool r.q)) .leaf 0=true:=au h (aG hK r)
theorem Xf (p:wq) (K:KE) (hpre:tP p) (hK:Ed p K=true):(bW 0 (fC pw) CO 600 Re (Dx p).1 (Dx p).2.1 (Dx p).2.2 K)=true:=by
 refine Eq.trans (b:=(iP (¬(p.l1.length:Int)=(p.l2.length:Int)) (K (.sy (.bool (false=true))) .leaf 0) (aF fun p1:gF=>mP (((.cons 17 (.sy (.int 0 0)) (.cons 16 (.sy (.int 0 (p.l1.length:Int))) (.cons 15 (.sy (.imm p.h1 9 ax p.l1 aI)) (.cons 2 (.fn 43 []) (.cons 1 (.sy (.imm p.h2 9 ax p.l2 aI)) .nil))))),.leaf,0)=kX p1) (mP (kg p1) (ac (iP (HQ p1) (K (.sy (.bool (true=true))) .leaf 0) true) (iP (Fy p1) (K (.sy (.bool (false=true))) .leaf 0) true)))))) (by kernel_rfl) ?_
 dsimp only[tP]at hpre
 obtain⟨u1,u2⟩:=hpre
 refine iI (fun hc1=> ?_) (fun hc1=> ?_)
 exact EF hK ⟨false=true⟩ (by dsimp only[qu]<;>(first|(simp;done)|(simp;assumption)|(simp;intro e;exact hc1 (by have:=congrArg List.length e;simp at this;omega))|simp_all))
 refine dx (⟨p.h1,p.l1,p.h2,p.l2,(0:Int)⟩:gF) rfl (by(try dsimp only[kg]);refine⟨by omega,by omega,by omega,u1,u2,rfl⟩) ?_
 refine aE ?_ ?_
 refine iI (p:=p.l1.map be=p.l2.map be) (fun hi2=> ?_) (fun _=>rfl)
 exact EF hK ⟨true=true⟩ (by dsimp only[qu]<;>(first|(simp;done)|(simp;assumption)|(simp;intro e;exact hc1 (by have:=congrArg List.length e;simp at this;omega))|simp_all))
 refine iI (p:=¬p.l1.map be=p.l2.map be) (fun hi3=> ?_) (fun _=>rfl)
 exact EF hK ⟨false=true⟩ (by dsimp only[qu]<;>(first|(simp;done)|(simp;assumption)|(simp;intro e;exact hc1 (by have:=congrArg List.length e;simp at this;omega))|simp_all))
noncomputable def Er:=bt pw 0 (bJ Dx (dr tP Ed)) 42 [(0,23),(1,23)]
theorem CI:aV Tryz.prog Er:=aR (bU (f:=42) (k:=0) (lp:=CO) (lf:=600) bm (cK oV) Rc (by rfl) (fun b j x h=>(cy Tp (fun h=>(by cases h)) h)) fun p K h=>Xf p K (aa h).1 (aa h).2) oV
def Gb:XF:=.mk 17 (.one 4) (.aft (.seq (g_ 3 [e_ 0 2 (.box 29 (.t 0)),e_ 1 3 (.box 29 (.t 1)),p_ 2 4 (.mv (.c (.bool false)))]) (.seq (g_ 13 [p_ 0 5 (f_ 0 2),r_ 1 6 (.ld true 8 (.t 5)),p_ 2 7 (f_ 0 3),r_ 3 8 (.ld true 8 (.t 7)),c_ 4 9 41 [.t 6,.t 8],p_ 5 10 (m_ 9),aj 6 11 10 true (f_ 8 2),aT 7 12 10 true (l_ 11),aj 8 13 10 true (f_ 8 3),aT 9 14 10 true (l_ 13),fX 10 15 10 true 42 [.t 12,.t 14,.f 43],p_ 11 16 (.pick (.t 10) (.t 15) (.c (.bool false))),p_ 12 4 (m_ 16)]) .ret)) [(0,[.up 4]),(1,[.up 4])])
theorem Jl:bE Tryz.prog 14 Gb=true:=by kernel_rfl
structure kE where
 x:bN
 y:bN
structure BW where
 q:Prop
def dC (p:kE) (r:BW):Prop:=r.q↔dX p.x=dX p.y
noncomputable def kB (p:kE):IE:=([.agg [.sy (.imm p.x.hg 3 aw p.x.gs aD),.sy (.int 0 p.x.clients),.sy (.int 0 p.x.window),.sy (.int 0 p.x.deadline),.sy (.int 0 p.x.pace),.sy (.int 0 p.x.again),.sy (.int 0 p.x.bag),.sy (.int 4 p.x.first),.sy (.imm p.x.ho 9 ax p.x.os aI)],.agg [.sy (.imm p.y.hg 3 aw p.y.gs aD),.sy (.int 0 p.y.clients),.sy (.int 0 p.y.window),.sy (.int 0 p.y.deadline),.sy (.int 0 p.y.pace),.sy (.int 0 p.y.again),.sy (.int 0 p.y.bag),.sy (.int 4 p.y.first),.sy (.imm p.y.ho 9 ax p.y.os aI)]],.leaf,0)
noncomputable def mO (p:kE) (K:KE):Bool:=am fun r:BW=>iP (dC p r) (K (.sy (.bool r.q)) .leaf 0) true
def fZ (p:kE):Prop:=gT p.x.os∧gT p.y.os∧p.x.gs.length≤10∧p.y.gs.length≤10
theorem gm {p:kE} {K:KE} (hK:mO p K=true) (r:BW) (h:dC p r):K (.sy (.bool r.q)) .leaf 0=true:=au h (aG hK r)
theorem Pr (p:kE) (K:KE) (hpre:fZ p) (hK:mO p K=true):(bW 0 (fC Er) cL 600 Gb (kB p).1 (kB p).2.1 (kB p).2.2 K)=true:=by
 refine Eq.trans (b:=(let z0:Bool:=(K (.sy (.bool (false=true))) .leaf 0);aM (([.sy (.imm p.x.hg 3 aw p.x.gs aD),.sy (.imm p.y.hg 3 aw p.y.gs aD)],.leaf,0)) rv mL kr fun p1 r1=>iP (r1.q) (iP (p.x.clients=p.y.clients) (iP (p.x.window=p.y.window) (iP (p.x.deadline=p.y.deadline) (iP (p.x.pace=p.y.pace) (iP (p.x.again=p.y.again) (iP (p.x.bag=p.y.bag) (iP (p.x.first=p.y.first) (aM (([.sy (.imm p.x.ho 9 ax p.x.os aI),.sy (.imm p.y.ho 9 ax p.y.os aI),.fn 43 []],.leaf,0)) Dx tP qu fun p2 r2=>K (.sy (.bool r2.q)) .leaf 0) z0) z0) z0) z0) z0) z0) z0) z0)) (by kernel_rfl) ?_
 dsimp only[fZ]at hpre
 obtain⟨u1,u2,u3,u4⟩:=hpre
 refine ay (⟨p.x.hg,p.x.gs,p.y.hg,p.y.gs⟩:lQ) rfl (by(try dsimp only[mL]);omega) fun r1 hi1=> ?_
 dsimp only[kr]at hi1
 refine iI (fun hc2=> ?_) (fun hc2=> ?_)
 refine iI (fun hc3=> ?_) (fun hc3=> ?_)
 refine iI (fun hc4=> ?_) (fun hc4=> ?_)
 refine iI (fun hc5=> ?_) (fun hc5=> ?_)
 refine iI (fun hc6=> ?_) (fun hc6=> ?_)
 refine iI (fun hc7=> ?_) (fun hc7=> ?_)
 refine iI (fun hc8=> ?_) (fun hc8=> ?_)
 refine iI (fun hc9=> ?_) (fun hc9=> ?_)
 refine ay (⟨p.x.ho,p.x.os,p.y.ho,p.y.os⟩:wq) rfl (by(try dsimp only[tP]);exact⟨by assumption,by assumption⟩) fun r2 hi10=> ?_
 dsimp only[qu]at hi10
 exact gm hK ⟨r2.q⟩ (by dsimp only[dC]<;>(simp only[dX,ac9];simp_all))
 exact gm hK ⟨false=true⟩ (by dsimp only[dC]<;>(simp only[dX,ac9];simp_all))
 exact gm hK ⟨false=true⟩ (by dsimp only[dC]<;>(simp only[dX,ac9];simp_all))
 exact gm hK ⟨false=true⟩ (by dsimp only[dC]<;>(simp only[dX,ac9];simp_all))
 exact gm hK ⟨false=true⟩ (by dsimp only[dC]<;>(simp only[dX,ac9];simp_all))
 exact gm hK ⟨false=true⟩ (by dsimp only[dC]<;>(simp only[dX,ac9];simp_all))
 exact gm hK ⟨false=true⟩ (by dsimp only[dC]<;>(simp only[dX,ac9];simp_all))
 exact gm hK ⟨false=true⟩ (by dsimp only[dC]<;>(simp only[dX,ac9];simp_all))
 exact gm hK ⟨false=true⟩ (by dsimp only[dC]<;>(simp only[dX,ac9];simp_all))
theorem FQ:bR Tryz.prog 14 0 (bJ kB (dr fZ mO)):=(vK (f:=14) (k:=0) (cK CI) Jl (by rfl) (by rfl) Pr)
noncomputable def px:=bt Er 0 (bJ kB (dr fZ mO)) 14 [(0,15),(1,15)]
theorem oW:aV Tryz.prog px:=aR FQ CI
def yt:XC:=(.aft (.seq (g_ 1 [p_ 0 9 (.bin 3 0 (.t 8) (.t 7))]) (.seq (.cond (.t 9) .skip (.exit 2)) (.seq (.block 3 (.seq (g_ 2 [p_ 0 10 (m_ 8),p_ 1 5 (m_ 10)]) (.seq (g_ 6 [p_ 0 11 (m_ 1),p_ 1 12 (m_ 0),p_ 2 13 (m_ 5),p_ 3 14 (.ixs 9 (.t 12) (.t 13)),r_ 4 15 (.ld true 9 (.t 14)),.k 5 (some 16) none 11 [39] [.t 15]]) (.cond (.t 16) (.seq (g_ 2 [p_ 0 17 (m_ 5),p_ 1 4 (m_ 17)]) .ret) .skip)))) (g_ 2 [p_ 0 18 (.bin 0 0 (.t 8) (i_ 1)),p_ 1 8 (m_ 18)])))) [(0,[.can 0 [0,1,7,8]]),(1,[.can 0 [4]]),(2,[.can 0 []])])
def Mw:XF:=.mk 19 (.one 4) (.aft (.seq (g_ 1 [p_ 0 4 (.mv (i_ 0))]) (.seq (.seq (g_ 3 [p_ 0 6 (m_ 0),p_ 1 7 (k_ 6),p_ 2 8 (.mv (i_ 0))]) (.block 2 (.pre [.can 0 [0,1,7,8],.up 7,.up 8,.can 0 [0,1,7,8]] (.inv 0 yt)))) (.seq (g_ 1 [p_ 0 4 (.mv (.c (.int 0 (.negSucc 0))))]) .ret))) [(0,[.up 4]),(1,[.up 4])])
theorem OC:bE Tryz.prog 66 Mw=true:=by kernel_rfl
structure fp where
 h:Value
 l:List ax
 i:Int
structure sN where
 z:Int
def Fx (p:fp):Prop:=∀x∈p.l,cn x
def Ct (p:fp) (r:sN):Prop:=0≤r.z∧¬∀x∈p.l,cn x
noncomputable def jz (p:fp):IL:=((.cons 8 (.sy (.int 0 p.i)) (.cons 7 (.sy (.int 0 (p.l.length:Int))) (.cons 1 (.fn 39 []) (.cons 0 (.sy (.imm p.h 9 ax p.l aI)) .nil)))),.leaf,0)
noncomputable def vh (p:fp) (K:KC):Bool:=ac (iP (Fx p) (K 2 .nil .leaf 0) true) (am fun r:sN=>iP (Ct p r) (K 1 (.cons 4 (.sy (.int 0 r.z)) .nil) .leaf 0) true)
def jh (p:fp):Prop:=gT p.l∧0≤p.i∧p.i≤(p.l.length:Int)∧(∀(j:Nat) y,(j:Int)<p.i→p.l[j]?=some y→cn y)
noncomputable def rN (p:fp) (K:KC):Bool:=ac (aC (jh p)) (vh p K)
noncomputable def zj:fE:=fun j S M nx K=>(Bool.rec (false) (aF fun p:fp=>ac (aC ((S,M,nx)=jz p)) (rN p K)) (Nat.beq j 0))
def il (p:fp):Nat:=((p.l.length:Int) - p.i).toNat
noncomputable def GB (s:IL) (n:Nat) (K:KC):Bool:=aF fun q=>mP (s=jz q∧il q<n) (rN q K)
theorem Rx {p q:fp} {K:KC} {s:IL} (hm:il q<il p:=by dsimp only[il]<;>(omega)) (hp:jh q:=by dsimp only[jh]<;>(exact⟨g0,by omega,by omega,nL g3 (by omega) hi2 (by simp_all)⟩)) (hK:vh q K=true:=by exact hK) (e:s=jz q:=by rfl):GB s (il p) K=true:=aK q (ba ⟨e,hm⟩ (ba hp hK))
theorem PE (p:fp) (K:KC) (hpre:jh p) (hK:vh p K=true):(cO (fC px) zj 600 yt (jz p).1 (jz p).2.1 (jz p).2.2 (fun e S M nx=>Nat.casesOn e (aF fun q:fp=>ac (aC ((S,M,nx)=jz q∧il q<il p)) (rN q K)) (fun e2=>K (Nat.succ e2) S M nx)))=true:=by
 refine Eq.trans (b:=(iP (p.i<(p.l.length:Int)) (mP (0≤p.i∧p.i<(p.l.length:Int)) (am fun x1:ax=>iP (p.l[p.i.toNat]?=some x1) (aM (([.agg [.sy (.int 0 x1.kind),.sy (.int 0 x1.x),.sy (.int 0 x1.y),.sy (.int 0 x1.i),.sy (.int 0 x1.at_),.sy (.int 0 x1.mode),.sy (.int 3 x1.mask),.sy (.int 1 x1.grp),.sy (.imm x1.hp 5 aB x1.ps encP)]],.leaf,0)) nQ ia jm fun p1 r1=>iP (¬r1.q) (K 1 (.cons 4 (.sy (.int 0 p.i)) .nil) .leaf 0) (mP (bp 0 (p.i+(1:Int))) (GB ((.cons 8 (.sy (.int 0 (p.i+(1:Int)))) (.cons 7 (.sy (.int 0 (p.l.length:Int))) (.cons 1 (.fn 39 []) (.cons 0 (.sy (.imm p.h 9 ax p.l aI)) .nil)))),.leaf,0) (il p) K))) true)) (K 2 .nil .leaf 0))) (by kernel_rfl) ?_
 obtain⟨hK0,hKr0⟩:=ai hK
 have hK1:=hKr0
 dsimp only[jh]at hpre
 obtain⟨g0,g1,g2,g3⟩:=hpre
 have g9:=g0.1
 refine iI (fun hc1=> ?_) (fun hc1=> ?_)
 refine er ?_
 refine az (fun x1=> ?_)
 refine iI (fun hi2=> ?_) (fun _=>rfl)
 have hm_x1:=g0.2 _ x1 (by assumption)
 refine ay (⟨x1⟩:lc) rfl (by(try dsimp only[ia]);first|omega|exact Om (by assumption)) fun r1 hi3=> ?_
 dsimp only[jm]at hi3
 refine iI (fun hc4=> ?_) (fun hc4=> ?_)
 exact au (show 0≤p.i∧¬∀x∈p.l,cn x from(by exact⟨by omega,mY hi2 (by simp_all)⟩)) (aG hK1 (⟨p.i⟩:sN))
 refine bG ?_
 exact Rx (q:=⟨p.h,p.l,p.i+(1:Int)⟩)
 exact au (show∀x∈p.l,cn x from(by exact nM g3 (by omega))) hK0
theorem QA:dI Tryz.prog 19 0 zj true 0 yt:=by
 exact eM (lf:=600) bm (cK oW) (by rfl) jz il rN (fun b j x h=>by cases h) (fun S M nx K h=>by obtain⟨p,h⟩:=bL h;exact⟨p,(aa h).1,(aa h).2⟩) (fun p K h=>PE p K (aa h).1 (aa h).2)
structure rD where
 h:Value
 l:List ax
structure KH where
 z:Int
def pP (p:rD) (r:KH):Prop:=(0≤r.z↔¬∀x∈p.l,cn x)∧(r.z<0↔∀x∈p.l,cn x)
noncomputable def yH (p:rD):IE:=([.sy (.imm p.h 9 ax p.l aI),.fn 39 []],.leaf,0)
noncomputable def AW (p:rD) (K:KE):Bool:=am fun r:KH=>iP (pP p r) (K (.sy (.int 0 r.z)) .leaf 0) true
def qm (p:rD):Prop:=gT p.l
theorem JS {p:rD} {K:KE} (hK:AW p K=true) (r:KH) (h:pP p r):K (.sy (.int 0 r.z)) .leaf 0=true:=au h (aG hK r)
theorem UZ (p:rD) (K:KE) (hpre:qm p) (hK:AW p K=true):(bW 0 (fC px) zj 600 Mw (yH p).1 (yH p).2.1 (yH p).2.2 K)=true:=by
 refine Eq.trans (b:=(aF fun p1:fp=>mP (((.cons 8 (.sy (.int 0 0)) (.cons 7 (.sy (.int 0 (p.l.length:Int))) (.cons 1 (.fn 39 []) (.cons 0 (.sy (.imm p.h 9 ax p.l aI)) .nil)))),.leaf,0)=jz p1) (mP (jh p1) (ac (iP (Fx p1) (K (.sy (.int 0 (-1))) .leaf 0) true) (am fun r1:sN=>iP (Ct p1 r1) (K (.sy (.int 0 r1.z)) .leaf 0) true))))) (by kernel_rfl) ?_
 dsimp only[qm]at hpre
 have g9:=hpre.1
 refine dx (⟨p.h,p.l,(0:Int)⟩:fp) rfl (by(try dsimp only[jh]);exact⟨hpre,by omega,by omega,fun j y h1 h2=>by omega⟩) ?_
 refine aE ?_ ?_
 refine iI (p:=∀x∈p.l,cn x) (fun hi1=> ?_) (fun _=>rfl)
 exact JS hK ⟨((-1):Int)⟩ (by dsimp only[pP]<;>(first|(simp_all;done)|(obtain⟨a,b⟩:=hi1;exact⟨⟨fun _=>b,fun _=>a⟩,⟨fun c=>absurd c (by omega),fun c=>absurd c b⟩⟩)))
 refine az (fun r1=> ?_)
 refine iI (p:=0≤r1.z∧¬∀x∈p.l,cn x) (fun hi2=> ?_) (fun _=>rfl)
 exact JS hK ⟨r1.z⟩ (by dsimp only[pP]<;>(first|(simp_all;done)|(obtain⟨a,b⟩:=hi2;exact⟨⟨fun _=>b,fun _=>a⟩,⟨fun c=>absurd c (by omega),fun c=>absurd c b⟩⟩)))
noncomputable def vG:=bt px 0 (bJ yH (dr qm AW)) 66 [(0,23)]
theorem tq:aV Tryz.prog vG:=aR (bU (f:=66) (k:=0) (lp:=zj) (lf:=600) bm (cK oW) OC (by rfl) (fun b j x h=>(cy QA (fun h=>(by cases h)) h)) fun p K h=>UZ p K (aa h).1 (aa h).2) oW
def nK:XC:=(.aft (.seq (g_ 1 [p_ 0 23 (.bin 3 0 (.t 22) (.t 21))]) (.seq (.cond (.t 23) .skip (.exit 2)) (.seq (.block 3 (.seq (g_ 4 [p_ 0 24 (.ixs 3 (.t 20) (.t 22)),r_ 1 25 (.ld true 3 (.t 24)),e_ 2 5 (.al 82 [.int 0 (.ofNat 0),.int 0 (.ofNat 0),.bool false]),bl 3 (.st 3 (.t 5) (.t 25))]) (.seq (g_ 10 [p_ 0 26 (f_ 0 5),r_ 1 27 (l_ 26),c_ 2 28 36 [.t 27],p_ 3 29 (.un 0 (.t 28)),p_ 4 30 (m_ 29),aj 5 31 30 false (f_ 1 5),aT 6 32 30 false (l_ 31),fX 7 33 30 false 36 [.t 32],aj 8 34 30 false (.un 0 (.t 33)),p_ 9 35 (.pick (.t 30) (.c (.bool true)) (.t 34))]) (.cond (.t 35) (.seq (g_ 1 [p_ 0 2 (.mv (.c (.bool false)))]) .ret) .skip)))) (g_ 2 [p_ 0 36 (.bin 0 0 (.t 22) (i_ 1)),p_ 1 22 (m_ 36)])))) [(0,[.can 0 [1,20,21,22]]),(1,[.can 0 [2]]),(2,[.can 0 [1]])])
def Ao:XF:=.mk 55 (.one 2) (.aft (.seq (g_ 2 [e_ 0 1 (.box 29 (.t 0)),p_ 1 2 (.mv (.c (.bool false)))]) (.seq (.seq (g_ 5 [p_ 0 8 (f_ 0 1),p_ 1 9 (f_ 0 8),r_ 2 10 (l_ 9),p_ 3 11 (k_ 10),p_ 4 3 (m_ 11)]) (.seq (g_ 6 [p_ 0 12 (m_ 3),p_ 1 13 (.bin 3 4 (.t 12) (i_ 0)),p_ 2 14 (m_ 13),aj 3 15 14 false (m_ 3),aj 4 16 14 false (.bin 3 2 (.t 15) (i_ 4)),p_ 5 17 (.pick (.t 14) (.c (.bool true)) (.t 16))]) (.cond (.t 17) (.seq (g_ 1 [p_ 0 2 (.mv (.c (.bool false)))]) .ret) .skip))) (.seq (.seq (g_ 5 [p_ 0 18 (f_ 0 1),p_ 1 19 (f_ 0 18),r_ 2 20 (l_ 19),p_ 3 21 (k_ 20),p_ 4 22 (.mv (i_ 0))]) (.block 2 (.pre [.can 0 [1,20,21,22],.up 21,.up 22,.can 0 [1,20,21,22]] (.inv 0 nK)))) (.seq (.seq (g_ 4 [p_ 0 37 (f_ 0 1),c_ 1 38 37 [.t 37],p_ 2 39 (k_ 38),p_ 3 40 (.mv (i_ 0))]) (.block 4 (.loop [1,2,7,38,39,40,41,42,43,44,45,46,47,48,49,50,51,52,53,54] (.seq (g_ 1 [p_ 0 41 (.bin 3 0 (.t 40) (.t 39))]) (.seq (.cond (.t 41) .skip (.exit 4)) (.seq (.block 5 (.seq (g_ 4 [p_ 0 42 (.ixs 2 (.t 38) (.t 40)),r_ 1 43 (.ld true 2 (.t 42)),e_ 2 7 (.al 106 [.str [],.nilP]),bl 3 (.st 2 (.t 7) (.t 43))]) (.seq (g_ 6 [p_ 0 44 (f_ 1 7),r_ 1 45 (l_ 44),p_ 2 46 (n_ 45),r_ 3 47 (l_ 46),c_ 4 48 36 [.t 47],p_ 5 49 (.un 0 (.t 48))]) (.cond (.t 49) (.seq (g_ 1 [p_ 0 2 (.mv (.c (.bool false)))]) .ret) .skip)))) (g_ 2 [p_ 0 50 (.bin 0 0 (.t 40) (i_ 1)),p_ 1 40 (m_ 50)]))))))) (.seq (g_ 5 [p_ 0 51 (f_ 8 1),r_ 1 52 (l_ 51),c_ 2 53 38 [.t 52,.f 39],p_ 3 54 (.un 0 (.t 53)),p_ 4 2 (m_ 54)]) .ret))))) [(0,[.up 2]),(1,[.up 2])])
theorem ED:bE Tryz.prog 13 Ao=true:=by kernel_rfl
structure cH where
 s:bN
 i:Int
def tQ (p:cH):Prop:=∀x∈p.s.gs,iK x
def rR (p:cH):Prop:=¬∀x∈p.s.gs,iK x
noncomputable def ef (p:cH):IL:=((.cons 22 (.sy (.int 0 p.i)) (.cons 21 (.sy (.int 0 (p.s.gs.length:Int))) (.cons 20 (.sy (.imm p.s.hg 3 aw p.s.gs aD)) (.cons 1 (.ptr 0 0) .nil)))),(.node .leaf (some (.blk false 29 9 [[.sy (.imm p.s.hg 3 aw p.s.gs aD),.sy (.int 0 p.s.clients),.sy (.int 0 p.s.window),.sy (.int 0 p.s.deadline),.sy (.int 0 p.s.pace),.sy (.int 0 p.s.again),.sy (.int 0 p.s.bag),.sy (.int 4 p.s.first),.sy (.imm p.s.ho 9 ax p.s.os aI)]])) .leaf),1)
noncomputable def mS (p:cH) (K:KC):Bool:=ac (iP (tQ p) (K 2 (.cons 1 (.ptr 0 0) .nil) (.node .leaf (some (.blk false 29 9 [[.sy (.imm p.s.hg 3 aw p.s.gs aD),.sy (.int 0 p.s.clients),.sy (.int 0 p.s.window),.sy (.int 0 p.s.deadline),.sy (.int 0 p.s.pace),.sy (.int 0 p.s.again),.sy (.int 0 p.s.bag),.sy (.int 4 p.s.first),.sy (.imm p.s.ho 9 ax p.s.os aI)]])) .leaf) 1) true) (iP (rR p) (K 1 (.cons 2 (.bool false) .nil) .leaf 0) true)
def eJ (p:cH):Prop:=p.s.gs.length≤4∧0≤p.i∧p.i≤(p.s.gs.length:Int)∧(∀(j:Nat) y,(j:Int)<p.i→p.s.gs[j]?=some y→iK y)
noncomputable def kI (p:cH) (K:KC):Bool:=ac (aC (eJ p)) (mS p K)
noncomputable def ov:fE:=fun j S M nx K=>(Bool.rec (false) (aF fun p:cH=>ac (aC ((S,M,nx)=ef p)) (kI p K)) (Nat.beq j 0))
def dO (p:cH):Nat:=((p.s.gs.length:Int) - p.i).toNat
noncomputable def uq (s:IL) (n:Nat) (K:KC):Bool:=aF fun q=>mP (s=ef q∧dO q<n) (kI q K)
theorem EL {p q:cH} {K:KC} {s:IL} (hm:dO q<dO p:=by dsimp only[dO]<;>(omega)) (hp:eJ q:=by dsimp only[eJ]<;>(exact⟨g0,by omega,by omega,nL g3 (by omega) hi2 (by unfold iK;omega)⟩)) (hK:mS q K=true:=by exact hK) (e:s=ef q:=by rfl):uq s (dO p) K=true:=aK q (ba ⟨e,hm⟩ (ba hp hK))
theorem DF (p:cH) (K:KC) (hpre:eJ p) (hK:mS p K=true):(cO (fC vG) ov 600 nK (ef p).1 (ef p).2.1 (ef p).2.2 (fun e S M nx=>Nat.casesOn e (aF fun q:cH=>ac (aC ((S,M,nx)=ef q∧dO q<dO p)) (kI q K)) (fun e2=>K (Nat.succ e2) S M nx)))=true:=by
 refine Eq.trans (b:=(let z1:Bool:=(K 1 (.cons 2 (.bool false) .nil) .leaf 0);iP (p.i<(p.s.gs.length:Int)) (mP (0≤p.i∧p.i<(p.s.gs.length:Int)) (am fun x1:aw=>iP (p.s.gs[p.i.toNat]?=some x1) (iP ((0:Int)≤x1.f) (iP (¬(x1.f≤(1099511627776:Int))) z1 (iP ((0:Int)≤x1.s) (iP (¬(x1.s≤(1099511627776:Int))) z1 (mP (bp 0 (p.i+(1:Int))) (uq ((.cons 22 (.sy (.int 0 (p.i+(1:Int)))) (.cons 21 (.sy (.int 0 (p.s.gs.length:Int))) (.cons 20 (.sy (.imm p.s.hg 3 aw p.s.gs aD)) (.cons 1 (.ptr 0 0) .nil)))),(.node .leaf (some (.blk false 29 9 [[.sy (.imm p.s.hg 3 aw p.s.gs aD),.sy (.int 0 p.s.clients),.sy (.int 0 p.s.window),.sy (.int 0 p.s.deadline),.sy (.int 0 p.s.pace),.sy (.int 0 p.s.again),.sy (.int 0 p.s.bag),.sy (.int 4 p.s.first),.sy (.imm p.s.ho 9 ax p.s.os aI)]])) .leaf),1) (dO p) K))) z1)) z1) true)) (K 2 (.cons 1 (.ptr 0 0) .nil) (.node .leaf (some (.blk false 29 9 [[.sy (.imm p.s.hg 3 aw p.s.gs aD),.sy (.int 0 p.s.clients),.sy (.int 0 p.s.window),.sy (.int 0 p.s.deadline),.sy (.int 0 p.s.pace),.sy (.int 0 p.s.again),.sy (.int 0 p.s.bag),.sy (.int 4 p.s.first),.sy (.imm p.s.ho 9 ax p.s.os aI)]])) .leaf) 1))) (by kernel_rfl) ?_
 obtain⟨hK0,hKr0⟩:=ai hK
 have hK1:=hKr0
 dsimp only[eJ]at hpre
 obtain⟨g0,g1,g2,g3⟩:=hpre
 refine iI (fun hc1=> ?_) (fun hc1=> ?_)
 refine er ?_
 refine az (fun x1=> ?_)
 refine iI (fun hi2=> ?_) (fun _=>rfl)
 refine iI (fun hc3=> ?_) (fun hc3=> ?_)
 refine iI (fun hc4=> ?_) (fun hc4=> ?_)
 exact au (show¬∀x∈p.s.gs,iK x from(by exact mY hi2 (by unfold iK;omega))) hK1
 refine iI (fun hc5=> ?_) (fun hc5=> ?_)
 refine iI (fun hc6=> ?_) (fun hc6=> ?_)
 exact au (show¬∀x∈p.s.gs,iK x from(by exact mY hi2 (by unfold iK;omega))) hK1
 refine bG ?_
 exact EL (q:=⟨p.s,p.i+(1:Int)⟩)
 exact au (show¬∀x∈p.s.gs,iK x from(by exact mY hi2 (by unfold iK;omega))) hK1
 exact au (show¬∀x∈p.s.gs,iK x from(by exact mY hi2 (by unfold iK;omega))) hK1
 exact au (show∀x∈p.s.gs,iK x from(by exact nM g3 (by omega))) hK0
theorem Eu:dI Tryz.prog 55 0 ov true 0 nK:=by
 exact eM (lf:=600) bm (cK tq) (by rfl) ef dO kI (fun b j x h=>by cases h) (fun S M nx K h=>by obtain⟨p,h⟩:=bL h;exact⟨p,(aa h).1,(aa h).2⟩) (fun p K h=>DF p K (aa h).1 (aa h).2)
structure cv where
 s:bN
structure wm where
 q:Prop
def bc (p:cv) (r:wm):Prop:=r.q↔cB p.s
noncomputable def cG (p:cv):IE:=([.agg [.sy (.imm p.s.hg 3 aw p.s.gs aD),.sy (.int 0 p.s.clients),.sy (.int 0 p.s.window),.sy (.int 0 p.s.deadline),.sy (.int 0 p.s.pace),.sy (.int 0 p.s.again),.sy (.int 0 p.s.bag),.sy (.int 4 p.s.first),.sy (.imm p.s.ho 9 ax p.s.os aI)]],.leaf,0)
noncomputable def qA (p:cv) (K:KE):Bool:=am fun r:wm=>iP (bc p r) (K (.sy (.bool r.q)) .leaf 0) true
def aZ (p:cv):Prop:=gT p.s.os∧p.s.gs.length≤10
theorem cx {p:cv} {K:KE} (hK:qA p K=true) (r:wm) (h:bc p r:=by dsimp only[bc]<;>(unfold cB;first|(simp_all;done)|(simp_all;omega)|(refine⟨fun h=>⟨⟨by omega,by omega⟩,by assumption,⟨by omega,by omega⟩,⟨by omega,by omega⟩,⟨by omega,by omega⟩,⟨by omega,by omega⟩,⟨by omega,by omega⟩,⟨by omega,by omega⟩,(by assumption:_∧(_↔∀x∈_,cn x)).2.1 (by omega)⟩,fun h=> ?_⟩;have e:=(by assumption:_∧(_↔∀x∈_,cn x)).2.2 h.2.2.2.2.2.2.2.2;omega)|(constructor<;>intro h<;>simp_all<;>omega)|(refine⟨fun _=>⟨⟨by omega,by omega⟩,by assumption,⟨by omega,by omega⟩,⟨by omega,by omega⟩,⟨by omega,by omega⟩,⟨by omega,by omega⟩,⟨by omega,by omega⟩,⟨by omega,by omega⟩,by assumption⟩,fun _=>rfl⟩)|(refine Iff.intro (fun h=>(by cases h)) (fun h=> ?_);exfalso;obtain⟨h1,h2,h3⟩:=h;omega))):K (.sy (.bool r.q)) .leaf 0=true:=au h (aG hK r)
theorem KO (p:cv) (K:KE) (hpre:aZ p) (hK:qA p K=true):(bW 0 (fC vG) ov 600 Ao (cG p).1 (cG p).2.1 (cG p).2.2 K)=true:=by
 refine Eq.trans (b:=(let z0:Bool:=(K (.sy (.bool (false=true))) .leaf 0);iP ((p.s.gs.length:Int)=(0:Int)) z0 (iP ((4:Int)<(p.s.gs.length:Int)) z0 (aF fun p1:cH=>mP (((.cons 22 (.sy (.int 0 0)) (.cons 21 (.sy (.int 0 (p.s.gs.length:Int))) (.cons 20 (.sy (.imm p.s.hg 3 aw p.s.gs aD)) (.cons 1 (.ptr 0 0) .nil)))),(.node .leaf (some (.blk false 29 9 [[.sy (.imm p.s.hg 3 aw p.s.gs aD),.sy (.int 0 p.s.clients),.sy (.int 0 p.s.window),.sy (.int 0 p.s.deadline),.sy (.int 0 p.s.pace),.sy (.int 0 p.s.again),.sy (.int 0 p.s.bag),.sy (.int 4 p.s.first),.sy (.imm p.s.ho 9 ax p.s.os aI)]])) .leaf),1)=ef p1) (mP (eJ p1) (ac (iP (tQ p1) (iP ((0:Int)≤p1.s.clients) (iP (¬(p1.s.clients≤(1099511627776:Int))) z0 (iP ((0:Int)≤p1.s.window) (iP (¬(p1.s.window≤(1099511627776:Int))) z0 (iP ((0:Int)≤p1.s.deadline) (iP (¬(p1.s.deadline≤(1099511627776:Int))) z0 (iP ((0:Int)≤p1.s.pace) (iP (¬(p1.s.pace≤(1099511627776:Int))) z0 (iP ((0:Int)≤p1.s.again) (iP (¬(p1.s.again≤(1099511627776:Int))) z0 (iP ((0:Int)≤p1.s.bag) (iP (¬(p1.s.bag≤(1099511627776:Int))) z0 (aM (([.sy (.imm p1.s.ho 9 ax p1.s.os aI),.fn 39 []],.leaf,0)) yH qm pP fun p2 r1=>K (.sy (.bool (¬((0:Int)≤r1.z)))) .leaf 0)) z0)) z0)) z0)) z0)) z0)) z0) true) (iP (rR p1) z0 true))))))) (by kernel_rfl) ?_
 dsimp only[aZ]at hpre
 obtain⟨u1,u2⟩:=hpre
 refine iI (fun hc1=> ?_) (fun hc1=> ?_)
 exact cx hK ⟨false=true⟩
 refine iI (fun hc2=> ?_) (fun hc2=> ?_)
 exact cx hK ⟨false=true⟩
 refine dx (⟨p.s,(0:Int)⟩:cH) rfl (by(try dsimp only[eJ]);exact⟨by omega,by omega,by omega,fun j y h1 h2=>by omega⟩) ?_
 refine aE ?_ ?_
 refine iI (p:=∀x∈p.s.gs,iK x) (fun hi3=> ?_) (fun _=>rfl)
 refine iI (p:=(0:Int)≤p.s.clients) (fun hc4=> ?_) (fun hc4=> ?_)
 refine iI (p:=¬(p.s.clients≤(1099511627776:Int))) (fun hc5=> ?_) (fun hc5=> ?_)
 exact cx hK ⟨false=true⟩
 refine iI (p:=(0:Int)≤p.s.window) (fun hc6=> ?_) (fun hc6=> ?_)
 refine iI (p:=¬(p.s.window≤(1099511627776:Int))) (fun hc7=> ?_) (fun hc7=> ?_)
 exact cx hK ⟨false=true⟩
 refine iI (p:=(0:Int)≤p.s.deadline) (fun hc8=> ?_) (fun hc8=> ?_)
 refine iI (p:=¬(p.s.deadline≤(1099511627776:Int))) (fun hc9=> ?_) (fun hc9=> ?_)
 exact cx hK ⟨false=true⟩
 refine iI (p:=(0:Int)≤p.s.pace) (fun hc10=> ?_) (fun hc10=> ?_)
 refine iI (p:=¬(p.s.pace≤(1099511627776:Int))) (fun hc11=> ?_) (fun hc11=> ?_)
 exact cx hK ⟨false=true⟩
 refine iI (p:=(0:Int)≤p.s.again) (fun hc12=> ?_) (fun hc12=> ?_)
 refine iI (p:=¬(p.s.again≤(1099511627776:Int))) (fun hc13=> ?_) (fun hc13=> ?_)
 exact cx hK ⟨false=true⟩
 refine iI (p:=(0:Int)≤p.s.bag) (fun hc14=> ?_) (fun hc14=> ?_)
 refine iI (p:=¬(p.s.bag≤(1099511627776:Int))) (fun hc15=> ?_) (fun hc15=> ?_)
 exact cx hK ⟨false=true⟩
 refine ay (⟨p.s.ho,p.s.os⟩:rD) rfl (by(try dsimp only[qm]);assumption) fun r1 hi16=> ?_
 dsimp only[pP]at hi16
 exact cx hK ⟨¬((0:Int)≤r1.z)⟩
 exact cx hK ⟨false=true⟩
 exact cx hK ⟨false=true⟩
 exact cx hK ⟨false=true⟩
 exact cx hK ⟨false=true⟩
 exact cx hK ⟨false=true⟩
 exact cx hK ⟨false=true⟩
 refine iI (p:=¬∀x∈p.s.gs,iK x) (fun hi17=> ?_) (fun _=>rfl)
 exact cx hK ⟨false=true⟩
noncomputable def xR:=bt vG 0 (bJ cG (dr aZ qA)) 13 [(0,15)]
theorem CJ:aV Tryz.prog xR:=aR (bU (f:=13) (k:=0) (lp:=ov) (lf:=600) bm (cK tq) ED (by rfl) (fun b j x h=>(cy Eu (fun h=>(by cases h)) h)) fun p K h=>KO p K (aa h).1 (aa h).2) tq
end Go.Proofs.Tryz
namespace Go.Proofs.Tryz
open Go.Proofs.YtacomabmhnodlaaGreatDoor (zf nD wL lT qX nE pt Es)
open Go Go.RowKit Go.Sy
open Go.Eng hiding am
set_option maxRecDepth 1000000
set_option linter.unusedVariables false
set_option maxHeartbeats 4000000
theorem jn (p:aB):bd p=Lib.itoa p.g++58::(verbT p.k++58::(p.key++(if p.k=1 then 58::p.val else if p.k=2∨p.k=3 then 58::Lib.itoa p.n else []))):=by
 unfold bd dF
 split
 ·simp[Lib.join,List.intercalate]
 ·split<;>simp[Lib.join,List.intercalate]
theorem Fk (k:Int):(verbT k).length≤5:=by
 unfold verbT
 split
 ·simp
 ·split
  ·simp
  ·split
   ·simp
   ·split<;>simp
theorem dP {z:Int} (h0:0≤z) (h1:z≤18446744073709551615):(Lib.itoa z).length≤20:=by
 obtain⟨u,rfl⟩:∃u:Nat,z=u:=⟨z.toNat,by omega⟩
 rw[Lib.itoa_nonneg,Lib.decDigits_length]
 exact Lib.nDigits_le20 u (by omega)
theorem LX {p:aB} (h:bo p):0≤p.n∧(p.k=2∨p.k=3→p.val=[]):=by
 obtain⟨_,_,_,h2⟩:=h
 rcases h2 with⟨_,_,h2⟩|⟨_,h3,h2⟩|⟨_,h3,h2⟩
 ·exact⟨by omega,by omega⟩
 ·exact⟨by omega,fun _=>h3⟩
 ·exact⟨by omega,fun _=>h3⟩
theorem oI {p:aB} (h:bo p) (h2:lV p):(bd p).length≤110:=by
 have e1:=rS h
 have e2:=Fk p.k
 have e4:=LX h
 unfold lV at h2
 have e3:=dP (z:=p.g) h2.1.1 (by omega)
 have e5:=dP (z:=p.n) e4.1 (by omega)
 rw[jn]
 simp only[acA,acB]
 split
 ·simp only[acB];omega
 ·split
  ·simp only[acB];omega
  ·simp only[acD];omega
theorem iM {a b:List UInt8} {n:Nat} (h:a=b) (h2:b.length≤n):a=b∧a.length≤n:=⟨h,h▸h2⟩
noncomputable def vC:=bt xR 0 (DO 1 verbT) 91 [(0,20)]
theorem wB:aV Tryz.prog vC:=aR Es CJ
def Ms:XF:=.mk 35 (.one 2) (.aft (.seq (g_ 2 [e_ 0 1 (.box 124 (.t 0)),p_ 1 2 (.mv (.c (.str [])))]) (.seq (h_ 11 [p_ 0 4 (f_ 0 1),r_ 1 5 (l_ 4),p_ 2 6 (.cnv 0 (.t 5)),p_ 4 8 (f_ 1 1),r_ 5 9 (l_ 8),p_ 7 11 (f_ 2 1),r_ 8 12 (l_ 11),c_ 3 7 60 [.t 6],a_ 5 9 (l_ 8),a_ 8 12 (l_ 11),c_ 6 10 91 [.t 9],a_ 8 12 (l_ 11),e_ 9 13 (.bsl 9 1 3 [.str [],.str [],.str []] [(0,1),(1,1),(2,1)] [.t 7,.t 10,.t 12]),p_ 10 3 (m_ 13)]) (.seq (.seq (g_ 2 [p_ 0 14 (f_ 1 1),r_ 1 15 (l_ 14)]) (.block 2 (.seq (.block 5 (.block 4 (.seq (.block 3 (.seq (.seq (.seq (g_ 2 [p_ 0 17 (.bin 3 4 (.t 15) (.c (.int 1 (.ofNat 1)))),p_ 1 16 (m_ 17)]) (.cond (.t 16) (.exit 3) .skip)) (.seq (.seq (g_ 2 [p_ 0 19 (.bin 3 4 (.t 15) (.c (.int 1 (.ofNat 2)))),p_ 1 18 (m_ 19)]) (.cond (.t 18) (.exit 4) .skip)) (.seq (g_ 2 [p_ 0 21 (.bin 3 4 (.t 15) (.c (.int 1 (.ofNat 3)))),p_ 1 20 (m_ 21)]) (.cond (.t 20) (.exit 5) .skip)))) (.exit 2))) (.seq (g_ 6 [p_ 0 22 (m_ 3),p_ 1 23 (f_ 3 1),r_ 2 24 (l_ 23),e_ 3 25 (.bsl 9 1 1 [.str []] [(0,1)] [.t 24]),e_ 4 26 (.app 9 1 16 (.t 22) (.t 25)),p_ 5 3 (m_ 26)]) (.exit 2))))) (.seq (g_ 7 [p_ 0 27 (m_ 3),p_ 1 28 (f_ 4 1),r_ 2 29 (l_ 28),c_ 3 30 92 [.t 29,i_ 10],e_ 4 31 (.bsl 9 1 1 [.str []] [(0,1)] [.t 30]),e_ 5 32 (.app 9 1 16 (.t 27) (.t 31)),p_ 6 3 (m_ 32)]) (.exit 2))))) (.seq (g_ 3 [p_ 0 33 (m_ 3),c_ 1 34 65 [.t 33,.c (.str [58])],p_ 2 2 (m_ 34)]) .ret)))) [(0,[.up 2]),(1,[.up 2])])
theorem Oy:bE Tryz.prog 64 Ms=true:=by kernel_rfl
structure rz where
 p:aB
structure KB where
 s:List UInt8
def lY (p:rz) (r:KB):Prop:=r.s=bd p.p∧r.s.length≤110
noncomputable def yD (p:rz):IE:=([.agg [.sy (.int 1 p.p.g),.sy (.int 1 p.p.k),.sy (.str p.p.key),.sy (.str p.p.val),.sy (.int 0 p.p.n)]],.leaf,0)
noncomputable def AO (p:rz) (K:KE):Bool:=am fun r:KB=>iP (lY p r) (K (.sy (.str r.s)) .leaf 0) true
def qj (p:rz):Prop:=bo p.p∧lV p.p
theorem vZ {p:rz} {K:KE} (hK:AO p K=true) (r:KB) (h:lY p r):K (.sy (.str r.s)) .leaf 0=true:=au h (aG hK r)
theorem UV (p:rz) (K:KE) (hpre:qj p) (hK:AO p K=true):(bW 0 (fC vC) cL 600 Ms (yD p).1 (yD p).2.1 (yD p).2.2 K)=true:=by
 refine Eq.trans (b:=(let z0:Bool:=(K (.sy (.str (Lib.join [Lib.itoa p.p.g,verbT p.p.k,p.p.key,Lib.itoa p.p.n] qf))) .leaf 0);mP (bp 0 p.p.g) (mP (bp 0 p.p.g) (mP (((.int 1 p.p.k):SY)=(.int 1 p.p.k)) (mP (((.str p.p.key):SY)=(.str p.p.key)) (mP (bp 1 p.p.k) (mP (((.str p.p.key):SY)=(.str p.p.key)) (iP (p.p.k=(1:Int)) (mP ((Lib.join [Lib.itoa p.p.g,verbT p.p.k,p.p.key,p.p.val] qf).length≤140737488355328) (mP ([Lib.itoa p.p.g,verbT p.p.k,p.p.key,p.p.val].length≤140737488355328) (K (.sy (.str (Lib.join [Lib.itoa p.p.g,verbT p.p.k,p.p.key,p.p.val] qf))) .leaf 0))) (iP (p.p.k=(2:Int)) (mP (bp 0 p.p.n) (mP ((Lib.join [Lib.itoa p.p.g,verbT p.p.k,p.p.key,Lib.itoa p.p.n] qf).length≤140737488355328) (mP ([Lib.itoa p.p.g,verbT p.p.k,p.p.key,Lib.itoa p.p.n].length≤140737488355328) z0))) (iP (p.p.k=(3:Int)) (mP (bp 0 p.p.n) (mP ((Lib.join [Lib.itoa p.p.g,verbT p.p.k,p.p.key,Lib.itoa p.p.n] qf).length≤140737488355328) (mP ([Lib.itoa p.p.g,verbT p.p.k,p.p.key,Lib.itoa p.p.n].length≤140737488355328) z0))) (mP ((Lib.join [Lib.itoa p.p.g,verbT p.p.k,p.p.key] qf).length≤140737488355328) (mP ([Lib.itoa p.p.g,verbT p.p.k,p.p.key].length≤140737488355328) (K (.sy (.str (Lib.join [Lib.itoa p.p.g,verbT p.p.k,p.p.key] qf))) .leaf 0))))))))))))) (by kernel_rfl) ?_
 dsimp only[qj]at hpre
 obtain⟨pr1,pr2⟩:=hpre
 have pr3:=rS pr1
 have pr4:=LX pr1
 have pr5:=Fk p.p.k
 unfold lV at pr2
 have pr6:=dP (z:=p.p.g) pr2.1.1 (by omega)
 have pr7:=dP (z:=p.p.n) pr4.1 (by omega)
 refine bG (bG (aL (aL (bG (aL ?_)))))
 refine iI (fun hc1=> ?_) (fun hc1=> ?_)
 refine mI (by simp[Lib.join,List.intercalate];omega) (Qw ?_)
 exact vZ hK ⟨Lib.join [Lib.itoa p.p.g,verbT p.p.k,p.p.key,p.p.val] qf⟩ (by dsimp only[lY]<;>(exact iM (by first|(simp_all [jn,Lib.join,List.intercalate,verbT];done)|(rw[jn];simp[Lib.join,List.intercalate];(try simp_all [verbT]);(try omega))) (oI pr1 pr2)))
 refine iI (fun hc2=> ?_) (fun hc2=> ?_)
 refine bG (mI (by simp[Lib.join,List.intercalate];omega) (Qw ?_))
 exact vZ hK ⟨Lib.join [Lib.itoa p.p.g,verbT p.p.k,p.p.key,Lib.itoa p.p.n] qf⟩ (by dsimp only[lY]<;>(exact iM (by first|(simp_all [jn,Lib.join,List.intercalate,verbT];done)|(rw[jn];simp[Lib.join,List.intercalate];(try simp_all [verbT]);(try omega))) (oI pr1 pr2)))
 refine iI (fun hc3=> ?_) (fun hc3=> ?_)
 refine bG (mI (by simp[Lib.join,List.intercalate];omega) (Qw ?_))
 exact vZ hK ⟨Lib.join [Lib.itoa p.p.g,verbT p.p.k,p.p.key,Lib.itoa p.p.n] qf⟩ (by dsimp only[lY]<;>(exact iM (by first|(simp_all [jn,Lib.join,List.intercalate,verbT];done)|(rw[jn];simp[Lib.join,List.intercalate];(try simp_all [verbT]);(try omega))) (oI pr1 pr2)))
 refine mI (by simp[Lib.join,List.intercalate];omega) (Qw ?_)
 exact vZ hK ⟨Lib.join [Lib.itoa p.p.g,verbT p.p.k,p.p.key] qf⟩ (by dsimp only[lY]<;>(exact iM (by first|(simp_all [jn,Lib.join,List.intercalate,verbT];done)|(rw[jn];simp[Lib.join,List.intercalate];(try simp_all [verbT]);(try omega))) (oI pr1 pr2)))
noncomputable def vq:=bt vC 0 (bJ yD (dr qj AO)) 64 [(0,15)]
theorem tg:aV Tryz.prog vq:=aR (vK (f:=64) (k:=0) (cK wB) Oy (by rfl) (by rfl) UV) wB
def fH (o:ax):List UInt8:=aW o.kind++Lib.joinTail [32] (aN o++o.ps.map bd)++[10]
theorem yi {α:Type} {l:List α} {i:Int} {x:α} (h0:0≤i) (hx:l[i.toNat]?=some x):l.drop i.toNat=x::l.drop (i+1).toNat:=by
 obtain⟨h,e⟩:=List.getElem?_eq_some_iff.1 hx
 rw[show(i+1).toNat=i.toNat+1 by omega,List.drop_eq_getElem_cons h,e]
theorem BC {α:Type} {l:List α} {i:Int} (h:(l.length:Int)≤i):l.drop i.toNat=[]:=List.drop_eq_nil_of_le (by omega)
theorem Wl {ps:List aB} {i:Int} {x:aB} {ws r:List (List UInt8)} {s:List UInt8} (h0:0≤i) (hx:ps[i.toNat]?=some x) (hs:s=bd x) (h:r=(ws++[s])++(ps.drop (i+1).toNat).map bd):r=ws++(ps.drop i.toNat).map bd:=by
 rw[h,yi h0 hx,hs];simp
theorem FF {o:ax} (h:cn o):∀x∈o.ps,bo x:=by
 unfold cn at h
 rcases h with h|h|h|h|h|h|h|h|h|h|h|h
 ·exact fun x hx=>(h.2.2.2.2.2.2.2.1.2.2 x hx)
 all_goals
  have e:o.ps=[]:=by simp only[h]
  rw[e];intro x hx;cases hx
theorem Ee {o:ax} (h:cn o):0≤o.x∧0≤o.y∧0≤o.i∧0≤o.at_∧0≤o.mode:=by
 unfold cn at h
 rcases h with h|h|h|h|h|h|h|h|h|h|h|h<;>omega
theorem Pm (k:Int):(aW k).length≤7:=by
 unfold aW
 repeat' split
 all_goals simp
theorem QM {l:List (List UInt8)} {m:Nat} (h:∀x∈l,x.length≤m):(Lib.joinTail [32] l).length≤(m+1)*l.length:=by
 induction l with
 |nil=>simp[Lib.joinTail]
 |cons a r ih=>
  have e:=ih fun x hx=>h x (List.mem_cons_of_mem _ hx)
  have e2:=h a List.mem_cons_self
  simp only[Lib.joinTail,acH,acG,acA,acB,acD]at e ⊢
  rw[Nat.mul_add]
  omega
theorem Qn {o:ax} (h:cn o) (h2:pd o):(aN o).length≤3∧∀x∈aN o,x.length≤110:=by
 have e:=Ee h
 unfold pd gV at h2
 have e1:=dP (z:=o.x) e.1 (by omega)
 have e2:=dP (z:=o.y) e.2.1 (by omega)
 have e3:=dP (z:=o.i) e.2.2.1 (by omega)
 have e4:=dP (z:=o.at_) e.2.2.2.1 (by omega)
 have e5:=dP (z:=o.mode) e.2.2.2.2 (by omega)
 have e6:=dP (z:=o.mask) h2.2.1.1 (by omega)
 unfold aN
 repeat' split
 all_goals simp
 all_goals omega
theorem QD {o:ax} (h:cn o) (h2:pd o) (h3:o.ps.length≤10):(fH o).length≤1500:=by
 have e1:=Pm o.kind
 have e2:=Qn h h2
 have e3:∀x∈aN o++o.ps.map bd,x.length≤110:=fun x hx=>by
  rcases List.mem_append.1 hx with hx|hx
  ·exact e2.2 x hx
  ·obtain⟨y,hy,rfl⟩:=List.mem_map.1 hx
   exact oI (FF h y hy) (h2.2.2.2 y hy)
 have e4:=QM e3
 rw[acA,acC]at e4
 have e5:(110+1)*((aN o).length+o.ps.length)≤111*13:=Nat.mul_le_mul_left _ (by omega)
 unfold fH
 rw[acA,acA,acB,acD]
 omega
theorem bf {o:ax} {r ns:List (List UInt8)} {x:List UInt8} (h:r=(x::ns)++o.ps.map bd) (hx:x=aW o.kind) (hn:ns=aN o):Lib.join r [32]++[10]=fH o:=by
 rw[h,List.cons_append,Lib.join_cons,hx,hn]
 rfl
theorem cP {a b c:List UInt8} {n:Nat} (h:a++b=c) (h2:c.length≤n):a.length≤n:=by
 have e:=congrArg List.length h
 rw[acA]at e
 omega
def yq:XC:=(.aft (.seq (g_ 1 [p_ 0 40 (.bin 3 0 (.t 39) (.t 38))]) (.seq (.cond (.t 40) .skip (.exit 4)) (.seq (.block 5 (.seq (g_ 4 [p_ 0 41 (.ixs 5 (.t 37) (.t 39)),r_ 1 42 (.ld true 5 (.t 41)),e_ 2 7 (.al 124 [.int 1 (.ofNat 0),.int 1 (.ofNat 0),.str [],.str [],.int 0 (.ofNat 0)]),bl 3 (.st 5 (.t 7) (.t 42))]) (g_ 6 [p_ 0 43 (m_ 3),r_ 1 44 (.ld true 5 (.t 7)),c_ 2 45 64 [.t 44],e_ 3 46 (.bsl 9 1 1 [.str []] [(0,1)] [.t 45]),e_ 4 47 (.app 9 1 16 (.t 43) (.t 46)),p_ 5 3 (m_ 47)]))) (g_ 2 [p_ 0 48 (.bin 0 0 (.t 39) (i_ 1)),p_ 1 39 (m_ 48)])))) [(0,[.can 0 [3,37,38,39]]),(4,[.can 0 [3]])])
def Mu:XF:=.mk 52 (.one 2) (.aft (.seq (g_ 2 [e_ 0 1 (.box 54 (.t 0)),p_ 1 2 (.mv (.c (.str [])))]) (.pre [.fixc 0 0 0 12] (.seq (g_ 5 [p_ 0 8 (f_ 0 1),r_ 1 9 (l_ 8),c_ 2 10 62 [.t 9],e_ 3 11 (.bsl 9 1 1 [.str []] [(0,1)] [.t 10]),p_ 4 3 (m_ 11)]) (.seq (.seq (g_ 3 [c_ 0 12 63 [.t 1],p_ 1 13 (k_ 12),p_ 2 14 (.mv (i_ 0))]) (.block 2 (.loop [1,2,3,5,7,12,13,14,15,16,17,18,19,20,21,22,23,24,25,26,27,28,29,30,31,32,33,34,35,36,37,38,39,40,41,42,43,44,45,46,47,48,49,50,51] (.seq (g_ 1 [p_ 0 15 (.bin 3 0 (.t 14) (.t 13))]) (.seq (.cond (.t 15) .skip (.exit 2)) (.seq (.block 3 (.seq (g_ 3 [p_ 0 16 (.ixs 1 (.t 12) (.t 14)),r_ 1 17 (l_ 16),p_ 2 5 (m_ 17)]) (g_ 8 [p_ 0 18 (m_ 3),p_ 1 19 (m_ 5),p_ 2 20 (n_ 19),r_ 3 21 (l_ 20),c_ 4 22 60 [.t 21],e_ 5 23 (.bsl 9 1 1 [.str []] [(0,1)] [.t 22]),e_ 6 24 (.app 9 1 16 (.t 18) (.t 23)),p_ 7 3 (m_ 24)]))) (g_ 2 [p_ 0 25 (.bin 0 0 (.t 14) (i_ 1)),p_ 1 14 (m_ 25)]))))))) (.seq (.seq (g_ 3 [p_ 0 26 (f_ 0 1),r_ 1 27 (l_ 26),p_ 2 28 (.bin 3 4 (.t 27) (i_ 5))]) (.cond (.t 28) (g_ 8 [p_ 0 29 (m_ 3),p_ 1 30 (f_ 6 1),r_ 2 31 (l_ 30),p_ 3 32 (.cnv 4 (.t 31)),c_ 4 33 61 [.t 32,i_ 10],e_ 5 34 (.bsl 9 1 1 [.str []] [(0,1)] [.t 33]),e_ 6 35 (.app 9 1 16 (.t 29) (.t 34)),p_ 7 3 (m_ 35)]) .skip)) (.seq (.seq (g_ 4 [p_ 0 36 (f_ 8 1),r_ 1 37 (l_ 36),p_ 2 38 (k_ 37),p_ 3 39 (.mv (i_ 0))]) (.block 4 (.pre [.can 0 [3,37,38,39],.upc 0 0 0,.born 3 9 1 (List UInt8) aP,.up 38,.up 39,.can 0 [3,37,38,39]] (.inv 0 yq)))) (.seq (g_ 4 [p_ 0 49 (m_ 3),c_ 1 50 65 [.t 49,.c (.str [32])],p_ 2 51 (.bin 4 0 (.t 50) (.c (.str [10]))),p_ 3 2 (m_ 51)]) .ret))))))) [(0,[.up 2]),(1,[.up 2])])
theorem OA:bE Tryz.prog 33 Mu=true:=by kernel_rfl
structure cF where
 hp:Value
 ps:List aB
 ws:List (List UInt8)
 i:Int
structure Cb where
 r:List (List UInt8)
def bP (p:cF) (r:Cb):Prop:=r.r=p.ws++(p.ps.drop p.i.toNat).map bd∧r.r.length≤20
noncomputable def db (p:cF):IL:=((.cons 39 (.sy (.int 0 p.i)) (.cons 38 (.sy (.int 0 (p.ps.length:Int))) (.cons 37 (.sy (.imm p.hp 5 aB p.ps encP)) (.cons 3 (.sy (.prow 0 p.ws.length)) .nil)))),(.node .leaf (some (.prow 9 1 (List UInt8) p.ws aP)) .leaf),1)
noncomputable def pu (p:cF) (K:KC):Bool:=am fun r:Cb=>iP (bP p r) (K 4 (.cons 3 (.sy (.prow 0 r.r.length)) .nil) (.node .leaf (some (.prow 9 1 (List UInt8) r.r aP)) .leaf) 1) true
def bn (p:cF):Prop:=p.ps.length≤10∧0≤p.i∧p.i≤(p.ps.length:Int)∧(p.ws.length:Int)≤10+p.i∧(∀x∈p.ps,bo x)∧∀x∈p.ps,lV x
theorem OI {p:cF} {K:KC} (hK:pu p K=true) (r:Cb) (h:bP p r):K 4 (.cons 3 (.sy (.prow 0 r.r.length)) .nil) (.node .leaf (some (.prow 9 1 (List UInt8) r.r aP)) .leaf) 1=true:=au h (aG hK r)
noncomputable def rL (p:cF) (K:KC):Bool:=ac (aC (bn p)) (pu p K)
noncomputable def zh:fE:=fun j S M nx K=>(Bool.rec (false) (aF fun p:cF=>ac (aC ((S,M,nx)=db p)) (rL p K)) (Nat.beq j 0))
def ij (p:cF):Nat:=((p.ps.length:Int) - p.i).toNat
noncomputable def Gz (s:IL) (n:Nat) (K:KC):Bool:=aF fun q=>mP (s=db q∧ij q<n) (rL q K)
theorem Rv {p q:cF} {K:KC} {s:IL} (hm:ij q<ij p) (hp:bn q) (hK:pu q K=true) (e:s=db q):Gz s (ij p) K=true:=aK q (ba ⟨e,hm⟩ (ba hp hK))
theorem PC (p:cF) (K:KC) (hpre:bn p) (hK:pu p K=true):(cO (fC vq) zh 600 yq (db p).1 (db p).2.1 (db p).2.2 (fun e S M nx=>Nat.casesOn e (aF fun q:cF=>ac (aC ((S,M,nx)=db q∧ij q<ij p)) (rL q K)) (fun e2=>K (Nat.succ e2) S M nx)))=true:=by
 refine Eq.trans (b:=(iP (p.i<(p.ps.length:Int)) (mP (0≤p.i∧p.i<(p.ps.length:Int)) (am fun x1:aB=>iP (p.ps[p.i.toNat]?=some x1) (aM (([.agg [.sy (.int 1 x1.g),.sy (.int 1 x1.k),.sy (.str x1.key),.sy (.str x1.val),.sy (.int 0 x1.n)]],.leaf,0)) yD qj lY fun p1 r1=>mP (p.ws.length=p.ws.length) (aF fun m1:List (List UInt8)=>mP (iL (m1.map aP) [[.sstr r1.s]]) (mP (eN 16 (p.ws.length+m1.length)) (mP (bp 0 (p.i+(1:Int))) (Gz ((.cons 39 (.sy (.int 0 (p.i+(1:Int)))) (.cons 38 (.sy (.int 0 (p.ps.length:Int))) (.cons 37 (.sy (.imm p.hp 5 aB p.ps encP)) (.cons 3 (.sy (.prow 0 ((p.ws++m1).length))) .nil)))),(.node .leaf (some (.prow 9 1 (List UInt8) (p.ws++m1) aP)) .leaf),1) (ij p) K))))) true)) (K 4 (.cons 3 (.sy (.prow 0 p.ws.length)) .nil) (.node .leaf (some (.prow 9 1 (List UInt8) p.ws aP)) .leaf) 1))) (by kernel_rfl) ?_
 dsimp only[bn]at hpre
 obtain⟨g0,g1,g2,g3,g4,g5⟩:=hpre
 refine iI (fun hc1=> ?_) (fun hc1=> ?_)
 refine er ?_
 refine az (fun x1=> ?_)
 refine iI (fun hi2=> ?_) (fun _=>rfl)
 have hg_x1:=g4 _ (acF (by assumption:p.ps[p.i.toNat]?=some x1))
 have hr_x1:=g5 _ (acF (by assumption:p.ps[p.i.toNat]?=some x1))
 refine ay (⟨x1⟩:rz) rfl (by(try dsimp only[qj]);exact⟨by assumption,by assumption⟩) fun r1 hi3=> ?_
 dsimp only[lY]at hi3
 refine aL ?_
 refine aK [r1.s] ?_
 refine xS (mI (by(try dsimp only);(first|omega|(simp[eN]<;>omega))) (bG ?_))
 exact Rv (q:=⟨p.hp,p.ps,p.ws++[r1.s],p.i+(1:Int)⟩) (by dsimp only[ij];omega) (by dsimp only[bn];exact⟨g0,by omega,by omega,by simp;omega,g4,g5⟩) (qw hK fun r hz=>⟨Wl g1 (by assumption) hi3.1 hz.1,hz.2⟩) rfl
 exact OI hK ⟨p.ws⟩ (by dsimp only[bP]<;>(exact⟨by rw[BC (by omega)];simp,by omega⟩))
theorem Qy:dI Tryz.prog 52 0 zh true 0 yq:=by
 exact eM (lf:=600) bm (cK tg) (by rfl) db ij rL (fun b j x h=>by cases h) (fun S M nx K h=>by obtain⟨p,h⟩:=bL h;exact⟨p,(aa h).1,(aa h).2⟩) (fun p K h=>PC p K (aa h).1 (aa h).2)
structure rB where
 o:ax
structure KG where
 s:List UInt8
def eX (p:rB) (r:KG):Prop:=r.s=fH p.o∧r.s.length≤1500
noncomputable def yF (p:rB):IE:=([.agg [.sy (.int 0 p.o.kind),.sy (.int 0 p.o.x),.sy (.int 0 p.o.y),.sy (.int 0 p.o.i),.sy (.int 0 p.o.at_),.sy (.int 0 p.o.mode),.sy (.int 3 p.o.mask),.sy (.int 1 p.o.grp),.sy (.imm p.o.hp 5 aB p.o.ps encP)]],.leaf,0)
noncomputable def AR (p:rB) (K:KE):Bool:=am fun r:KG=>iP (eX p r) (K (.sy (.str r.s)) .leaf 0) true
def ql (p:rB):Prop:=cn p.o∧pd p.o∧p.o.ps.length≤10
theorem fR {p:rB} {K:KE} (hK:AR p K=true) (r:KG) (h:eX p r):K (.sy (.str r.s)) .leaf 0=true:=au h (aG hK r)
theorem UX (p:rB) (K:KE) (hpre:ql p) (hK:AR p K=true):(bW 0 (fC vq) zh 600 Mu (yF p).1 (yF p).2.1 (yF p).2.2 K)=true:=by
 refine Eq.trans (b:=(iP (p.o.kind=0) (mP (bp 0 p.o.x) (mP (bp 0 p.o.mode) (aF fun l12:List (List UInt8)=>mP (l12.map aP=[[.sstr ND],[.sstr (Lib.itoa p.o.x)],[.sstr (Lib.itoa p.o.mode)]]) (aM (((.cons 39 (.sy (.int 0 0)) (.cons 38 (.sy (.int 0 (p.o.ps.length:Int))) (.cons 37 (.sy (.imm p.o.hp 5 aB p.o.ps encP)) (.cons 3 (.sy (.prow 0 l12.length)) .nil)))),(.node .leaf (some (.prow 9 1 (List UInt8) l12 aP)) .leaf),1)) db bn bP fun p12 r12=>aF fun j12:List (List UInt8)=>mP (r12.r.map aP=j12.map aP) (mP (r12.r.length=j12.length) (mP ((Lib.join j12 t_1).length≤140737488355328) (mP (j12.length≤140737488355328) (mP ((Lib.join j12 t_1).length+t_0.length≤9223372036854775807) (K (.sy (.str ((Lib.join j12 t_1)++t_0))) .leaf 0))))))))) (iP (p.o.kind=1) (mP (bp 0 p.o.x) (mP (bp 0 p.o.y) (aF fun l11:List (List UInt8)=>mP (l11.map aP=[[.sstr NC],[.sstr (Lib.itoa p.o.x)],[.sstr (Lib.itoa p.o.y)]]) (aM (((.cons 39 (.sy (.int 0 0)) (.cons 38 (.sy (.int 0 (p.o.ps.length:Int))) (.cons 37 (.sy (.imm p.o.hp 5 aB p.o.ps encP)) (.cons 3 (.sy (.prow 0 l11.length)) .nil)))),(.node .leaf (some (.prow 9 1 (List UInt8) l11 aP)) .leaf),1)) db bn bP fun p11 r11=>aF fun j11:List (List UInt8)=>mP (r11.r.map aP=j11.map aP) (mP (r11.r.length=j11.length) (mP ((Lib.join j11 t_1).length≤140737488355328) (mP (j11.length≤140737488355328) (mP ((Lib.join j11 t_1).length+t_0.length≤9223372036854775807) (K (.sy (.str ((Lib.join j11 t_1)++t_0))) .leaf 0))))))))) (iP (p.o.kind=2) (mP (bp 0 p.o.i) (aF fun l10:List (List UInt8)=>mP (l10.map aP=[[.sstr NB],[.sstr (Lib.itoa p.o.i)]]) (aM (((.cons 39 (.sy (.int 0 0)) (.cons 38 (.sy (.int 0 (p.o.ps.length:Int))) (.cons 37 (.sy (.imm p.o.hp 5 aB p.o.ps encP)) (.cons 3 (.sy (.prow 0 l10.length)) .nil)))),(.node .leaf (some (.prow 9 1 (List UInt8) l10 aP)) .leaf),1)) db bn bP fun p10 r10=>aF fun j10:List (List UInt8)=>mP (r10.r.map aP=j10.map aP) (mP (r10.r.length=j10.length) (mP ((Lib.join j10 t_1).length≤140737488355328) (mP (j10.length≤140737488355328) (mP ((Lib.join j10 t_1).length+t_0.length≤9223372036854775807) (K (.sy (.str ((Lib.join j10 t_1)++t_0))) .leaf 0)))))))) (iP (p.o.kind=3) (mP (bp 0 p.o.i) (aF fun l9:List (List UInt8)=>mP (l9.map aP=[[.sstr NA],[.sstr (Lib.itoa p.o.i)]]) (aM (((.cons 39 (.sy (.int 0 0)) (.cons 38 (.sy (.int 0 (p.o.ps.length:Int))) (.cons 37 (.sy (.imm p.o.hp 5 aB p.o.ps encP)) (.cons 3 (.sy (.prow 0 l9.length)) .nil)))),(.node .leaf (some (.prow 9 1 (List UInt8) l9 aP)) .leaf),1)) db bn bP fun p9 r9=>aF fun j9:List (List UInt8)=>mP (r9.r.map aP=j9.map aP) (mP (r9.r.length=j9.length) (mP ((Lib.join j9 t_1).length≤140737488355328) (mP (j9.length≤140737488355328) (mP ((Lib.join j9 t_1).length+t_0.length≤9223372036854775807) (K (.sy (.str ((Lib.join j9 t_1)++t_0))) .leaf 0)))))))) (iP (p.o.kind=4) (mP (bp 0 p.o.i) (aF fun l8:List (List UInt8)=>mP (l8.map aP=[[.sstr Nz],[.sstr (Lib.itoa p.o.i)]]) (aM (((.cons 39 (.sy (.int 0 0)) (.cons 38 (.sy (.int 0 (p.o.ps.length:Int))) (.cons 37 (.sy (.imm p.o.hp 5 aB p.o.ps encP)) (.cons 3 (.sy (.prow 0 l8.length)) .nil)))),(.node .leaf (some (.prow 9 1 (List UInt8) l8 aP)) .leaf),1)) db bn bP fun p8 r8=>aF fun j8:List (List UInt8)=>mP (r8.r.map aP=j8.map aP) (mP (r8.r.length=j8.length) (mP ((Lib.join j8 t_1).length≤140737488355328) (mP (j8.length≤140737488355328) (mP ((Lib.join j8 t_1).length+t_0.length≤9223372036854775807) (K (.sy (.str ((Lib.join j8 t_1)++t_0))) .leaf 0)))))))) (iP (p.o.kind=5) (mP (bp 0 p.o.i) (mP (bp 0 p.o.at_) (mP (bp 4 p.o.mask) (mP (bp 4 p.o.mask) (aF fun l7:List (List UInt8)=>mP (l7.map aP=[[.sstr rJ],[.sstr (Lib.itoa p.o.i)],[.sstr (Lib.itoa p.o.at_)],[.sstr (Lib.itoa p.o.mask)]]) (aM (((.cons 39 (.sy (.int 0 0)) (.cons 38 (.sy (.int 0 (p.o.ps.length:Int))) (.cons 37 (.sy (.imm p.o.hp 5 aB p.o.ps encP)) (.cons 3 (.sy (.prow 0 l7.length)) .nil)))),(.node .leaf (some (.prow 9 1 (List UInt8) l7 aP)) .leaf),1)) db bn bP fun p7 r7=>aF fun j7:List (List UInt8)=>mP (r7.r.map aP=j7.map aP) (mP (r7.r.length=j7.length) (mP ((Lib.join j7 t_1).length≤140737488355328) (mP (j7.length≤140737488355328) (mP ((Lib.join j7 t_1).length+t_0.length≤9223372036854775807) (K (.sy (.str ((Lib.join j7 t_1)++t_0))) .leaf 0))))))))))) (iP (p.o.kind=6) (mP (bp 0 p.o.x) (aF fun l6:List (List UInt8)=>mP (l6.map aP=[[.sstr Ny],[.sstr (Lib.itoa p.o.x)]]) (aM (((.cons 39 (.sy (.int 0 0)) (.cons 38 (.sy (.int 0 (p.o.ps.length:Int))) (.cons 37 (.sy (.imm p.o.hp 5 aB p.o.ps encP)) (.cons 3 (.sy (.prow 0 l6.length)) .nil)))),(.node .leaf (some (.prow 9 1 (List UInt8) l6 aP)) .leaf),1)) db bn bP fun p6 r6=>aF fun j6:List (List UInt8)=>mP (r6.r.map aP=j6.map aP) (mP (r6.r.length=j6.length) (mP ((Lib.join j6 t_1).length≤140737488355328) (mP (j6.length≤140737488355328) (mP ((Lib.join j6 t_1).length+t_0.length≤9223372036854775807) (K (.sy (.str ((Lib.join j6 t_1)++t_0))) .leaf 0)))))))) (iP (p.o.kind=7) (mP (bp 0 p.o.x) (mP (bp 0 p.o.y) (aF fun l5:List (List UInt8)=>mP (l5.map aP=[[.sstr Nx],[.sstr (Lib.itoa p.o.x)],[.sstr (Lib.itoa p.o.y)]]) (aM (((.cons 39 (.sy (.int 0 0)) (.cons 38 (.sy (.int 0 (p.o.ps.length:Int))) (.cons 37 (.sy (.imm p.o.hp 5 aB p.o.ps encP)) (.cons 3 (.sy (.prow 0 l5.length)) .nil)))),(.node .leaf (some (.prow 9 1 (List UInt8) l5 aP)) .leaf),1)) db bn bP fun p5 r5=>aF fun j5:List (List UInt8)=>mP (r5.r.map aP=j5.map aP) (mP (r5.r.length=j5.length) (mP ((Lib.join j5 t_1).length≤140737488355328) (mP (j5.length≤140737488355328) (mP ((Lib.join j5 t_1).length+t_0.length≤9223372036854775807) (K (.sy (.str ((Lib.join j5 t_1)++t_0))) .leaf 0))))))))) (iP (p.o.kind=8) (mP (bp 0 p.o.x) (aF fun l4:List (List UInt8)=>mP (l4.map aP=[[.sstr Nw],[.sstr (Lib.itoa p.o.x)]]) (aM (((.cons 39 (.sy (.int 0 0)) (.cons 38 (.sy (.int 0 (p.o.ps.length:Int))) (.cons 37 (.sy (.imm p.o.hp 5 aB p.o.ps encP)) (.cons 3 (.sy (.prow 0 l4.length)) .nil)))),(.node .leaf (some (.prow 9 1 (List UInt8) l4 aP)) .leaf),1)) db bn bP fun p4 r4=>aF fun j4:List (List UInt8)=>mP (r4.r.map aP=j4.map aP) (mP (r4.r.length=j4.length) (mP ((Lib.join j4 t_1).length≤140737488355328) (mP (j4.length≤140737488355328) (mP ((Lib.join j4 t_1).length+t_0.length≤9223372036854775807) (K (.sy (.str ((Lib.join j4 t_1)++t_0))) .leaf 0)))))))) (iP (p.o.kind=9) (mP (bp 0 p.o.x) (aF fun l3:List (List UInt8)=>mP (l3.map aP=[[.sstr Nv],[.sstr (Lib.itoa p.o.x)]]) (aM (((.cons 39 (.sy (.int 0 0)) (.cons 38 (.sy (.int 0 (p.o.ps.length:Int))) (.cons 37 (.sy (.imm p.o.hp 5 aB p.o.ps encP)) (.cons 3 (.sy (.prow 0 l3.length)) .nil)))),(.node .leaf (some (.prow 9 1 (List UInt8) l3 aP)) .leaf),1)) db bn bP fun p3 r3=>aF fun j3:List (List UInt8)=>mP (r3.r.map aP=j3.map aP) (mP (r3.r.length=j3.length) (mP ((Lib.join j3 t_1).length≤140737488355328) (mP (j3.length≤140737488355328) (mP ((Lib.join j3 t_1).length+t_0.length≤9223372036854775807) (K (.sy (.str ((Lib.join j3 t_1)++t_0))) .leaf 0)))))))) (iP (p.o.kind=10) (mP (bp 0 p.o.x) (aF fun l2:List (List UInt8)=>mP (l2.map aP=[[.sstr Nu],[.sstr (Lib.itoa p.o.x)]]) (aM (((.cons 39 (.sy (.int 0 0)) (.cons 38 (.sy (.int 0 (p.o.ps.length:Int))) (.cons 37 (.sy (.imm p.o.hp 5 aB p.o.ps encP)) (.cons 3 (.sy (.prow 0 l2.length)) .nil)))),(.node .leaf (some (.prow 9 1 (List UInt8) l2 aP)) .leaf),1)) db bn bP fun p2 r2=>aF fun j2:List (List UInt8)=>mP (r2.r.map aP=j2.map aP) (mP (r2.r.length=j2.length) (mP ((Lib.join j2 t_1).length≤140737488355328) (mP (j2.length≤140737488355328) (mP ((Lib.join j2 t_1).length+t_0.length≤9223372036854775807) (K (.sy (.str ((Lib.join j2 t_1)++t_0))) .leaf 0)))))))) (iP (p.o.kind=11) (mP (bp 0 p.o.x) (aF fun l1:List (List UInt8)=>mP (l1.map aP=[[.sstr Nt],[.sstr (Lib.itoa p.o.x)]]) (aM (((.cons 39 (.sy (.int 0 0)) (.cons 38 (.sy (.int 0 (p.o.ps.length:Int))) (.cons 37 (.sy (.imm p.o.hp 5 aB p.o.ps encP)) (.cons 3 (.sy (.prow 0 l1.length)) .nil)))),(.node .leaf (some (.prow 9 1 (List UInt8) l1 aP)) .leaf),1)) db bn bP fun p1 r1=>aF fun j1:List (List UInt8)=>mP (r1.r.map aP=j1.map aP) (mP (r1.r.length=j1.length) (mP ((Lib.join j1 t_1).length≤140737488355328) (mP (j1.length≤140737488355328) (mP ((Lib.join j1 t_1).length+t_0.length≤9223372036854775807) (K (.sy (.str ((Lib.join j1 t_1)++t_0))) .leaf 0)))))))) (mP (False) (true))))))))))))))) (by kernel_rfl) ?_
 dsimp only[ql]at hpre
 obtain⟨q1,q2,q3⟩:=hpre
 have q4:=qD q1
 have q5:=Ee q1
 have q6:=QD q1 q2 q3
 have q7:=FF q1
 have q8:=q2.2.2.2
 unfold pd gV at q2
 have q9:=dP (z:=p.o.x) q5.1 (by omega)
 have q10:=dP (z:=p.o.y) q5.2.1 (by omega)
 have q11:=dP (z:=p.o.i) q5.2.2.1 (by omega)
 have q12:=dP (z:=p.o.at_) q5.2.2.2.1 (by omega)
 have q13:=dP (z:=p.o.mode) q5.2.2.2.2 (by omega)
 have q14:=dP (z:=p.o.mask) q2.2.1.1 (by omega)
 refine iI (fun hc1=> ?_) (fun hc1=> ?_)
 refine bG (bG ?_)
 refine aK [ND,(Lib.itoa p.o.x),(Lib.itoa p.o.mode)] ?_
 refine aL ?_
 refine ay (⟨p.o.hp,p.o.ps,[ND,(Lib.itoa p.o.x),(Lib.itoa p.o.mode)],(0:Int)⟩:cF) rfl (by(try dsimp only[bn]);exact⟨q3,by omega,by omega,by simp,q7,q8⟩) fun r12 hi2=> ?_
 dsimp only[bP]at hi2
 refine aK r12.r ?_
 refine aL (aL (mI (by(try dsimp only);exact Nat.le_trans (cP (b:=[10]) (by have e9:=hi2.1;simp only[Int.toNat_zero,List.drop_zero]at e9;exact bf e9 (by(first|simp[aW,hkd]|(simp_all [aW];done))) (by(first|simp[aN,hkd]|(simp_all [aN];done)))) q6) (by decide)) (mI (by(try dsimp only);omega) (mI (by(try dsimp only);have e8:=cP (b:=[10]) (by have e9:=hi2.1;simp only[Int.toNat_zero,List.drop_zero]at e9;exact bf e9 (by(first|simp[aW,hkd]|(simp_all [aW];done))) (by(first|simp[aN,hkd]|(simp_all [aN];done)))) q6;simp;omega) ?_))))
 exact fR hK ⟨(Lib.join r12.r t_1)++t_0⟩ (by dsimp only[eX]<;>(exact iM (by have e9:=hi2.1;simp only[Int.toNat_zero,List.drop_zero]at e9;exact bf e9 (by(first|simp[aW,hkd]|(simp_all [aW];done))) (by(first|simp[aN,hkd]|(simp_all [aN];done)))) q6))
 refine iI (fun hc3=> ?_) (fun hc3=> ?_)
 refine bG (bG ?_)
 refine aK [NC,(Lib.itoa p.o.x),(Lib.itoa p.o.y)] ?_
 refine aL ?_
 refine ay (⟨p.o.hp,p.o.ps,[NC,(Lib.itoa p.o.x),(Lib.itoa p.o.y)],(0:Int)⟩:cF) rfl (by(try dsimp only[bn]);exact⟨q3,by omega,by omega,by simp,q7,q8⟩) fun r11 hi4=> ?_
 dsimp only[bP]at hi4
 refine aK r11.r ?_
 refine aL (aL (mI (by(try dsimp only);exact Nat.le_trans (cP (b:=[10]) (by have e9:=hi4.1;simp only[Int.toNat_zero,List.drop_zero]at e9;exact bf e9 (by(first|simp[aW,hkd]|(simp_all [aW];done))) (by(first|simp[aN,hkd]|(simp_all [aN];done)))) q6) (by decide)) (mI (by(try dsimp only);omega) (mI (by(try dsimp only);have e8:=cP (b:=[10]) (by have e9:=hi4.1;simp only[Int.toNat_zero,List.drop_zero]at e9;exact bf e9 (by(first|simp[aW,hkd]|(simp_all [aW];done))) (by(first|simp[aN,hkd]|(simp_all [aN];done)))) q6;simp;omega) ?_))))
 exact fR hK ⟨(Lib.join r11.r t_1)++t_0⟩ (by dsimp only[eX]<;>(exact iM (by have e9:=hi4.1;simp only[Int.toNat_zero,List.drop_zero]at e9;exact bf e9 (by(first|simp[aW,hkd]|(simp_all [aW];done))) (by(first|simp[aN,hkd]|(simp_all [aN];done)))) q6))
 refine iI (fun hc5=> ?_) (fun hc5=> ?_)
 refine bG ?_
 refine aK [NB,(Lib.itoa p.o.i)] ?_
 refine aL ?_
 refine ay (⟨p.o.hp,p.o.ps,[NB,(Lib.itoa p.o.i)],(0:Int)⟩:cF) rfl (by(try dsimp only[bn]);exact⟨q3,by omega,by omega,by simp,q7,q8⟩) fun r10 hi6=> ?_
 dsimp only[bP]at hi6
 refine aK r10.r ?_
 refine aL (aL (mI (by(try dsimp only);exact Nat.le_trans (cP (b:=[10]) (by have e9:=hi6.1;simp only[Int.toNat_zero,List.drop_zero]at e9;exact bf e9 (by(first|simp[aW,hkd]|(simp_all [aW];done))) (by(first|simp[aN,hkd]|(simp_all [aN];done)))) q6) (by decide)) (mI (by(try dsimp only);omega) (mI (by(try dsimp only);have e8:=cP (b:=[10]) (by have e9:=hi6.1;simp only[Int.toNat_zero,List.drop_zero]at e9;exact bf e9 (by(first|simp[aW,hkd]|(simp_all [aW];done))) (by(first|simp[aN,hkd]|(simp_all [aN];done)))) q6;simp;omega) ?_))))
 exact fR hK ⟨(Lib.join r10.r t_1)++t_0⟩ (by dsimp only[eX]<;>(exact iM (by have e9:=hi6.1;simp only[Int.toNat_zero,List.drop_zero]at e9;exact bf e9 (by(first|simp[aW,hkd]|(simp_all [aW];done))) (by(first|simp[aN,hkd]|(simp_all [aN];done)))) q6))
 refine iI (fun hc7=> ?_) (fun hc7=> ?_)
 refine bG ?_
 refine aK [NA,(Lib.itoa p.o.i)] ?_
 refine aL ?_
 refine ay (⟨p.o.hp,p.o.ps,[NA,(Lib.itoa p.o.i)],(0:Int)⟩:cF) rfl (by(try dsimp only[bn]);exact⟨q3,by omega,by omega,by simp,q7,q8⟩) fun r9 hi8=> ?_
 dsimp only[bP]at hi8
 refine aK r9.r ?_
 refine aL (aL (mI (by(try dsimp only);exact Nat.le_trans (cP (b:=[10]) (by have e9:=hi8.1;simp only[Int.toNat_zero,List.drop_zero]at e9;exact bf e9 (by(first|simp[aW,hkd]|(simp_all [aW];done))) (by(first|simp[aN,hkd]|(simp_all [aN];done)))) q6) (by decide)) (mI (by(try dsimp only);omega) (mI (by(try dsimp only);have e8:=cP (b:=[10]) (by have e9:=hi8.1;simp only[Int.toNat_zero,List.drop_zero]at e9;exact bf e9 (by(first|simp[aW,hkd]|(simp_all [aW];done))) (by(first|simp[aN,hkd]|(simp_all [aN];done)))) q6;simp;omega) ?_))))
 exact fR hK ⟨(Lib.join r9.r t_1)++t_0⟩ (by dsimp only[eX]<;>(exact iM (by have e9:=hi8.1;simp only[Int.toNat_zero,List.drop_zero]at e9;exact bf e9 (by(first|simp[aW,hkd]|(simp_all [aW];done))) (by(first|simp[aN,hkd]|(simp_all [aN];done)))) q6))
 refine iI (fun hc9=> ?_) (fun hc9=> ?_)
 refine bG ?_
 refine aK [Nz,(Lib.itoa p.o.i)] ?_
 refine aL ?_
 refine ay (⟨p.o.hp,p.o.ps,[Nz,(Lib.itoa p.o.i)],(0:Int)⟩:cF) rfl (by(try dsimp only[bn]);exact⟨q3,by omega,by omega,by simp,q7,q8⟩) fun r8 hi10=> ?_
 dsimp only[bP]at hi10
 refine aK r8.r ?_
 refine aL (aL (mI (by(try dsimp only);exact Nat.le_trans (cP (b:=[10]) (by have e9:=hi10.1;simp only[Int.toNat_zero,List.drop_zero]at e9;exact bf e9 (by(first|simp[aW,hkd]|(simp_all [aW];done))) (by(first|simp[aN,hkd]|(simp_all [aN];done)))) q6) (by decide)) (mI (by(try dsimp only);omega) (mI (by(try dsimp only);have e8:=cP (b:=[10]) (by have e9:=hi10.1;simp only[Int.toNat_zero,List.drop_zero]at e9;exact bf e9 (by(first|simp[aW,hkd]|(simp_all [aW];done))) (by(first|simp[aN,hkd]|(simp_all [aN];done)))) q6;simp;omega) ?_))))
 exact fR hK ⟨(Lib.join r8.r t_1)++t_0⟩ (by dsimp only[eX]<;>(exact iM (by have e9:=hi10.1;simp only[Int.toNat_zero,List.drop_zero]at e9;exact bf e9 (by(first|simp[aW,hkd]|(simp_all [aW];done))) (by(first|simp[aN,hkd]|(simp_all [aN];done)))) q6))
 refine iI (fun hc11=> ?_) (fun hc11=> ?_)
 refine bG (bG (bG (bG ?_)))
 refine aK [rJ,(Lib.itoa p.o.i),(Lib.itoa p.o.at_),(Lib.itoa p.o.mask)] ?_
 refine aL ?_
 refine ay (⟨p.o.hp,p.o.ps,[rJ,(Lib.itoa p.o.i),(Lib.itoa p.o.at_),(Lib.itoa p.o.mask)],(0:Int)⟩:cF) rfl (by(try dsimp only[bn]);exact⟨q3,by omega,by omega,by simp,q7,q8⟩) fun r7 hi12=> ?_
 dsimp only[bP]at hi12
 refine aK r7.r ?_
 refine aL (aL (mI (by(try dsimp only);exact Nat.le_trans (cP (b:=[10]) (by have e9:=hi12.1;simp only[Int.toNat_zero,List.drop_zero]at e9;exact bf e9 (by(first|simp[aW,hkd]|(simp_all [aW];done))) (by(first|simp[aN,hkd]|(simp_all [aN];done)))) q6) (by decide)) (mI (by(try dsimp only);omega) (mI (by(try dsimp only);have e8:=cP (b:=[10]) (by have e9:=hi12.1;simp only[Int.toNat_zero,List.drop_zero]at e9;exact bf e9 (by(first|simp[aW,hkd]|(simp_all [aW];done))) (by(first|simp[aN,hkd]|(simp_all [aN];done)))) q6;simp;omega) ?_))))
 exact fR hK ⟨(Lib.join r7.r t_1)++t_0⟩ (by dsimp only[eX]<;>(exact iM (by have e9:=hi12.1;simp only[Int.toNat_zero,List.drop_zero]at e9;exact bf e9 (by(first|simp[aW,hkd]|(simp_all [aW];done))) (by(first|simp[aN,hkd]|(simp_all [aN];done)))) q6))
 refine iI (fun hc13=> ?_) (fun hc13=> ?_)
 refine bG ?_
 refine aK [Ny,(Lib.itoa p.o.x)] ?_
 refine aL ?_
 refine ay (⟨p.o.hp,p.o.ps,[Ny,(Lib.itoa p.o.x)],(0:Int)⟩:cF) rfl (by(try dsimp only[bn]);exact⟨q3,by omega,by omega,by simp,q7,q8⟩) fun r6 hi14=> ?_
 dsimp only[bP]at hi14
 refine aK r6.r ?_
 refine aL (aL (mI (by(try dsimp only);exact Nat.le_trans (cP (b:=[10]) (by have e9:=hi14.1;simp only[Int.toNat_zero,List.drop_zero]at e9;exact bf e9 (by(first|simp[aW,hkd]|(simp_all [aW];done))) (by(first|simp[aN,hkd]|(simp_all [aN];done)))) q6) (by decide)) (mI (by(try dsimp only);omega) (mI (by(try dsimp only);have e8:=cP (b:=[10]) (by have e9:=hi14.1;simp only[Int.toNat_zero,List.drop_zero]at e9;exact bf e9 (by(first|simp[aW,hkd]|(simp_all [aW];done))) (by(first|simp[aN,hkd]|(simp_all [aN];done)))) q6;simp;omega) ?_))))
 exact fR hK ⟨(Lib.join r6.r t_1)++t_0⟩ (by dsimp only[eX]<;>(exact iM (by have e9:=hi14.1;simp only[Int.toNat_zero,List.drop_zero]at e9;exact bf e9 (by(first|simp[aW,hkd]|(simp_all [aW];done))) (by(first|simp[aN,hkd]|(simp_all [aN];done)))) q6))
 refine iI (fun hc15=> ?_) (fun hc15=> ?_)
 refine bG (bG ?_)
 refine aK [Nx,(Lib.itoa p.o.x),(Lib.itoa p.o.y)] ?_
 refine aL ?_
 refine ay (⟨p.o.hp,p.o.ps,[Nx,(Lib.itoa p.o.x),(Lib.itoa p.o.y)],(0:Int)⟩:cF) rfl (by(try dsimp only[bn]);exact⟨q3,by omega,by omega,by simp,q7,q8⟩) fun r5 hi16=> ?_
 dsimp only[bP]at hi16
 refine aK r5.r ?_
 refine aL (aL (mI (by(try dsimp only);exact Nat.le_trans (cP (b:=[10]) (by have e9:=hi16.1;simp only[Int.toNat_zero,List.drop_zero]at e9;exact bf e9 (by(first|simp[aW,hkd]|(simp_all [aW];done))) (by(first|simp[aN,hkd]|(simp_all [aN];done)))) q6) (by decide)) (mI (by(try dsimp only);omega) (mI (by(try dsimp only);have e8:=cP (b:=[10]) (by have e9:=hi16.1;simp only[Int.toNat_zero,List.drop_zero]at e9;exact bf e9 (by(first|simp[aW,hkd]|(simp_all [aW];done))) (by(first|simp[aN,hkd]|(simp_all [aN];done)))) q6;simp;omega) ?_))))
 exact fR hK ⟨(Lib.join r5.r t_1)++t_0⟩ (by dsimp only[eX]<;>(exact iM (by have e9:=hi16.1;simp only[Int.toNat_zero,List.drop_zero]at e9;exact bf e9 (by(first|simp[aW,hkd]|(simp_all [aW];done))) (by(first|simp[aN,hkd]|(simp_all [aN];done)))) q6))
 refine iI (fun hc17=> ?_) (fun hc17=> ?_)
 refine bG ?_
 refine aK [Nw,(Lib.itoa p.o.x)] ?_
 refine aL ?_
 refine ay (⟨p.o.hp,p.o.ps,[Nw,(Lib.itoa p.o.x)],(0:Int)⟩:cF) rfl (by(try dsimp only[bn]);exact⟨q3,by omega,by omega,by simp,q7,q8⟩) fun r4 hi18=> ?_
 dsimp only[bP]at hi18
 refine aK r4.r ?_
 refine aL (aL (mI (by(try dsimp only);exact Nat.le_trans (cP (b:=[10]) (by have e9:=hi18.1;simp only[Int.toNat_zero,List.drop_zero]at e9;exact bf e9 (by(first|simp[aW,hkd]|(simp_all [aW];done))) (by(first|simp[aN,hkd]|(simp_all [aN];done)))) q6) (by decide)) (mI (by(try dsimp only);omega) (mI (by(try dsimp only);have e8:=cP (b:=[10]) (by have e9:=hi18.1;simp only[Int.toNat_zero,List.drop_zero]at e9;exact bf e9 (by(first|simp[aW,hkd]|(simp_all [aW];done))) (by(first|simp[aN,hkd]|(simp_all [aN];done)))) q6;simp;omega) ?_))))
 exact fR hK ⟨(Lib.join r4.r t_1)++t_0⟩ (by dsimp only[eX]<;>(exact iM (by have e9:=hi18.1;simp only[Int.toNat_zero,List.drop_zero]at e9;exact bf e9 (by(first|simp[aW,hkd]|(simp_all [aW];done))) (by(first|simp[aN,hkd]|(simp_all [aN];done)))) q6))
 refine iI (fun hc19=> ?_) (fun hc19=> ?_)
 refine bG ?_
 refine aK [Nv,(Lib.itoa p.o.x)] ?_
 refine aL ?_
 refine ay (⟨p.o.hp,p.o.ps,[Nv,(Lib.itoa p.o.x)],(0:Int)⟩:cF) rfl (by(try dsimp only[bn]);exact⟨q3,by omega,by omega,by simp,q7,q8⟩) fun r3 hi20=> ?_
 dsimp only[bP]at hi20
 refine aK r3.r ?_
 refine aL (aL (mI (by(try dsimp only);exact Nat.le_trans (cP (b:=[10]) (by have e9:=hi20.1;simp only[Int.toNat_zero,List.drop_zero]at e9;exact bf e9 (by(first|simp[aW,hkd]|(simp_all [aW];done))) (by(first|simp[aN,hkd]|(simp_all [aN];done)))) q6) (by decide)) (mI (by(try dsimp only);omega) (mI (by(try dsimp only);have e8:=cP (b:=[10]) (by have e9:=hi20.1;simp only[Int.toNat_zero,List.drop_zero]at e9;exact bf e9 (by(first|simp[aW,hkd]|(simp_all [aW];done))) (by(first|simp[aN,hkd]|(simp_all [aN];done)))) q6;simp;omega) ?_))))
 exact fR hK ⟨(Lib.join r3.r t_1)++t_0⟩ (by dsimp only[eX]<;>(exact iM (by have e9:=hi20.1;simp only[Int.toNat_zero,List.drop_zero]at e9;exact bf e9 (by(first|simp[aW,hkd]|(simp_all [aW];done))) (by(first|simp[aN,hkd]|(simp_all [aN];done)))) q6))
 refine iI (fun hc21=> ?_) (fun hc21=> ?_)
 refine bG ?_
 refine aK [Nu,(Lib.itoa p.o.x)] ?_
 refine aL ?_
 refine ay (⟨p.o.hp,p.o.ps,[Nu,(Lib.itoa p.o.x)],(0:Int)⟩:cF) rfl (by(try dsimp only[bn]);exact⟨q3,by omega,by omega,by simp,q7,q8⟩) fun r2 hi22=> ?_
 dsimp only[bP]at hi22
 refine aK r2.r ?_
 refine aL (aL (mI (by(try dsimp only);exact Nat.le_trans (cP (b:=[10]) (by have e9:=hi22.1;simp only[Int.toNat_zero,List.drop_zero]at e9;exact bf e9 (by(first|simp[aW,hkd]|(simp_all [aW];done))) (by(first|simp[aN,hkd]|(simp_all [aN];done)))) q6) (by decide)) (mI (by(try dsimp only);omega) (mI (by(try dsimp only);have e8:=cP (b:=[10]) (by have e9:=hi22.1;simp only[Int.toNat_zero,List.drop_zero]at e9;exact bf e9 (by(first|simp[aW,hkd]|(simp_all [aW];done))) (by(first|simp[aN,hkd]|(simp_all [aN];done)))) q6;simp;omega) ?_))))
 exact fR hK ⟨(Lib.join r2.r t_1)++t_0⟩ (by dsimp only[eX]<;>(exact iM (by have e9:=hi22.1;simp only[Int.toNat_zero,List.drop_zero]at e9;exact bf e9 (by(first|simp[aW,hkd]|(simp_all [aW];done))) (by(first|simp[aN,hkd]|(simp_all [aN];done)))) q6))
 refine iI (fun hc23=> ?_) (fun hc23=> ?_)
 refine bG ?_
 refine aK [Nt,(Lib.itoa p.o.x)] ?_
 refine aL ?_
 refine ay (⟨p.o.hp,p.o.ps,[Nt,(Lib.itoa p.o.x)],(0:Int)⟩:cF) rfl (by(try dsimp only[bn]);exact⟨q3,by omega,by omega,by simp,q7,q8⟩) fun r1 hi24=> ?_
 dsimp only[bP]at hi24
 refine aK r1.r ?_
 refine aL (aL (mI (by(try dsimp only);exact Nat.le_trans (cP (b:=[10]) (by have e9:=hi24.1;simp only[Int.toNat_zero,List.drop_zero]at e9;exact bf e9 (by(first|simp[aW,hkd]|(simp_all [aW];done))) (by(first|simp[aN,hkd]|(simp_all [aN];done)))) q6) (by decide)) (mI (by(try dsimp only);omega) (mI (by(try dsimp only);have e8:=cP (b:=[10]) (by have e9:=hi24.1;simp only[Int.toNat_zero,List.drop_zero]at e9;exact bf e9 (by(first|simp[aW,hkd]|(simp_all [aW];done))) (by(first|simp[aN,hkd]|(simp_all [aN];done)))) q6;simp;omega) ?_))))
 exact fR hK ⟨(Lib.join r1.r t_1)++t_0⟩ (by dsimp only[eX]<;>(exact iM (by have e9:=hi24.1;simp only[Int.toNat_zero,List.drop_zero]at e9;exact bf e9 (by(first|simp[aW,hkd]|(simp_all [aW];done))) (by(first|simp[aN,hkd]|(simp_all [aN];done)))) q6))
 refine jE ?_
 rfl
noncomputable def qT:=bt vq 0 (bJ yF (dr ql AR)) 33 [(0,15)]
theorem tn:aV Tryz.prog qT:=aR (bU (f:=33) (k:=0) (lp:=zh) (lf:=600) bm (cK tg) OA (by rfl) (fun b j x h=>(cy Qy (fun h=>(by cases h)) h)) fun p K h=>UX p K (aa h).1 (aa h).2) tg
theorem PG {b x y:Bool} (h:(Bool.rec (motive:=fun _=>Bool) x y b)=true):(b=true∧y=true)∨(b=false∧x=true):=by cases b;exact .inr ⟨rfl,h⟩;exact .inl ⟨rfl,h⟩
noncomputable def fW (g:aw):List UInt8:=[103,114,111,117,112,32]++(Lib.itoa g.f++32::(Lib.itoa g.s++ @ite _ g.c (Classical.propDecidable _) [32,99,104,101,99,107,10] [32,112,108,97,105,110,10]))
theorem vT {g:aw} (h:g.c):fW g=[103,114,111,117,112,32]++(Lib.itoa g.f++32::(Lib.itoa g.s++[32,99,104,101,99,107,10])):=by unfold fW;rw[if_pos h]
theorem vU {g:aw} (h:¬g.c):fW g=[103,114,111,117,112,32]++(Lib.itoa g.f++32::(Lib.itoa g.s++[32,112,108,97,105,110,10])):=by unfold fW;rw[if_neg h]
noncomputable def pC (gs:List aw) (clients window deadline pace again bag first:Int):List UInt8:=(gs.map fW).flatten++([99,108,105,101,110,116,115,32]++Lib.itoa clients++[10])++([119,105,110,100,111,119,32]++Lib.itoa window++[10])++([100,101,97,100,108,105,110,101,32]++Lib.itoa deadline++[10])++([112,97,99,101,32]++Lib.itoa pace++[10])++([97,103,97,105,110,32]++Lib.itoa again++[10])++([98,97,103,32]++Lib.itoa bag++[10])++([102,105,114,115,116,32]++Lib.itoa first++[10])
theorem Ev {gs:List aw} {i:Int} {x:aw} {b r t:List UInt8} (h0:0≤i) (hx:gs[i.toNat]?=some x) (hs:t=b++fW x) (h:r=t++((gs.drop (i+1).toNat).map fW).flatten):r=b++((gs.drop i.toNat).map fW).flatten:=by
 rw[h,yi h0 hx,hs];simp
theorem Fz {α β:Type} {P:α→Prop} {Q:β→Prop} {K:α→Bool} (f:β→α) (h:(am fun r=>iP (P r) (K r) true)=true) (hw:∀r,Q r→P (f r)):(am fun r=>iP (Q r) (K (f r)) true)=true:=az fun r=>iI (fun hz=>au (hw r hz) (aG h (f r))) (fun _=>rfl)
noncomputable def UG (M:T) (i:Nat):Nat:=Option.casesOn (M.get i) 0 fun o=>AObj.casesOn o (fun _ _ _ _=>0) (fun _ _=>0) (fun _ _ _ _=>0) 0 (fun _ _ _ _ _=>1) (fun _ _ _ _ _ _ _=>0)
def sI:XC:=(.aft (.seq (g_ 1 [p_ 0 13 (.bin 3 0 (.t 12) (.t 11))]) (.seq (.cond (.t 13) .skip (.exit 2)) (.seq (.block 3 (.seq (g_ 4 [p_ 0 14 (.ixs 3 (.t 10) (.t 12)),r_ 1 15 (.ld true 3 (.t 14)),e_ 2 5 (.al 82 [.int 0 (.ofNat 0),.int 0 (.ofNat 0),.bool false]),bl 3 (.st 3 (.t 5) (.t 15))]) (.seq (g_ 1 [p_ 0 6 (.mv (.c (.str [112,108,97,105,110])))]) (.seq (.seq (g_ 2 [p_ 0 16 (f_ 2 5),r_ 1 17 (l_ 16)]) (.cond (.t 17) (g_ 1 [p_ 0 6 (.mv (.c (.str [99,104,101,99,107])))]) .skip)) (h_ 14 [p_ 0 18 (f_ 0 5),r_ 1 19 (l_ 18),p_ 5 23 (f_ 1 5),r_ 6 24 (l_ 23),p_ 10 28 (m_ 6),c_ 2 20 60 [.t 19],a_ 6 24 (l_ 23),p_ 3 21 (.bin 4 0 (.c (.str [103,114,111,117,112,32])) (.t 20)),p_ 4 22 (.bin 4 0 (.t 21) (.c (.str [32]))),c_ 7 25 60 [.t 24],p_ 8 26 (.bin 4 0 (.t 22) (.t 25)),p_ 9 27 (.bin 4 0 (.t 26) (.c (.str [32]))),p_ 11 29 (.bin 4 0 (.t 27) (.t 28)),p_ 12 30 (.bin 4 0 (.t 29) (.c (.str [10]))),c_ 13 31 31 [.t 3,.t 30]]))))) (g_ 2 [p_ 0 32 (.bin 0 0 (.t 12) (i_ 1)),p_ 1 12 (m_ 32)])))) [(0,[.can 0 [1,3,10,11,12]]),(2,[.can 0 [1,3]])])
def Mx:XF:=.mk 58 (.one 2) (.aft (.seq (g_ 2 [e_ 0 1 (.box 26 (.t 0)),p_ 1 2 (.mv (.c (.str [])))]) (.seq (g_ 1 [e_ 0 3 (.al 91 [.nilP,.nilS])]) (.seq (.seq (g_ 4 [p_ 0 9 (f_ 0 1),r_ 1 10 (l_ 9),p_ 2 11 (k_ 10),p_ 3 12 (.mv (i_ 0))]) (.block 2 (.pre [.can 0 [1,3,10,11,12],.up 11,.up 12,.can 0 [1,3,10,11,12]] (.inv 0 sI)))) (.seq (.seq (g_ 3 [c_ 0 33 37 [.t 1],p_ 1 34 (k_ 33),p_ 2 35 (.mv (i_ 0))]) (.block 4 (.loop [1,2,3,8,33,34,35,36,37,38,39,40,41,42,43,44,45,46,47,48,50,51,52,53,54,55,57] (.seq (g_ 1 [p_ 0 36 (.bin 3 0 (.t 35) (.t 34))]) (.seq (.cond (.t 36) .skip (.exit 4)) (.seq (.block 5 (.seq (g_ 4 [p_ 0 37 (.ixs 2 (.t 33) (.t 35)),r_ 1 38 (.ld true 2 (.t 37)),e_ 2 8 (.al 106 [.str [],.nilP]),bl 3 (.st 2 (.t 8) (.t 38))]) (h_ 11 [p_ 0 39 (f_ 0 8),r_ 1 40 (l_ 39),p_ 2 41 (.bin 4 0 (.t 40) (.c (.str [32]))),p_ 3 42 (f_ 1 8),r_ 4 43 (l_ 42),p_ 5 44 (n_ 43),r_ 6 45 (l_ 44),c_ 7 46 60 [.t 45],a_ 1 40 (l_ 39),p_ 8 47 (.bin 4 0 (.t 41) (.t 46)),p_ 9 48 (.bin 4 0 (.t 47) (.c (.str [10]))),c_ 10 49 31 [.t 3,.t 48]]))) (g_ 2 [p_ 0 50 (.bin 0 0 (.t 35) (i_ 1)),p_ 1 35 (m_ 50)]))))))) (.seq (g_ 6 [p_ 0 51 (f_ 7 1),r_ 1 52 (l_ 51),c_ 2 53 61 [.t 52,i_ 10],p_ 3 54 (.bin 4 0 (.c (.str [102,105,114,115,116,32])) (.t 53)),p_ 4 55 (.bin 4 0 (.t 54) (.c (.str [10]))),c_ 5 56 31 [.t 3,.t 55]]) (.seq (g_ 2 [c_ 0 57 35 [.t 3],p_ 1 2 (m_ 57)]) .ret)))))) [(0,[.up 2]),(1,[.up 2])])
theorem OD:bE Tryz.prog 32 Mx=true:=by kernel_rfl
structure gz where
 hg:Value
 gs:List aw
 clients:Int
 window:Int
 deadline:Int
 pace:Int
 again:Int
 bag:Int
 first:Int
 i:Int
structure sO where
 c:List UInt8
def uT (p:gz) (r:sO):Prop:=r.c=((p.gs.drop p.i.toNat).map fW).flatten∧r.c.length≤1000∧r.c≠[]
noncomputable def mq (p:gz):IL:=((.cons 12 (.sy (.int 0 p.i)) (.cons 11 (.sy (.int 0 (p.gs.length:Int))) (.cons 10 (.sy (.imm p.hg 3 aw p.gs aD)) (.cons 3 (.ptr 1 0) (.cons 1 (.ptr 0 0) .nil))))),(.node (.node .leaf (some (.blk false 91 2 [[.nilP,.nilS]])) .leaf) (some (.blk false 26 8 [[.sy (.imm p.hg 3 aw p.gs aD),.sy (.int 0 p.clients),.sy (.int 0 p.window),.sy (.int 0 p.deadline),.sy (.int 0 p.pace),.sy (.int 0 p.again),.sy (.int 0 p.bag),.sy (.int 4 p.first)]])) .leaf),2)
noncomputable def Ab (p:gz) (K:KC):Bool:=am fun r:sO=>iP (uT p r) (K 2 (.cons 3 (.ptr 1 0) (.cons 1 (.ptr 0 0) .nil)) (.node (.node .leaf (some (.blk false 91 2 [[.ptr 1 0,.sy (.prow 2 r.c.length)]])) .leaf) (some (.blk false 26 8 [[.sy (.imm p.hg 3 aw p.gs aD),.sy (.int 0 p.clients),.sy (.int 0 p.window),.sy (.int 0 p.deadline),.sy (.int 0 p.pace),.sy (.int 0 p.again),.sy (.int 0 p.bag),.sy (.int 4 p.first)]])) (.node .leaf (some (.prow 5 1 UInt8 r.c bw)) .leaf)) 3) true
def lq (p:gz):Prop:=p.i=0∧(1≤p.gs.length∧p.gs.length≤4)∧(∀g∈p.gs,iK g)
noncomputable def uI (p:gz) (K:KC):Bool:=ac (aC (lq p)) (Ab p K)
def mT (p:gz):Nat:=((p.gs.length:Int) - p.i).toNat
structure fh where
 hg:Value
 gs:List aw
 clients:Int
 window:Int
 deadline:Int
 pace:Int
 again:Int
 bag:Int
 first:Int
 b:List UInt8
 i:Int
structure oP where
 c:List UInt8
def uS (p:fh) (r:oP):Prop:=r.c=p.b++((p.gs.drop p.i.toNat).map fW).flatten∧r.c.length≤1000∧r.c≠[]
noncomputable def kC (p:fh):IL:=((.cons 12 (.sy (.int 0 p.i)) (.cons 11 (.sy (.int 0 (p.gs.length:Int))) (.cons 10 (.sy (.imm p.hg 3 aw p.gs aD)) (.cons 3 (.ptr 1 0) (.cons 1 (.ptr 0 0) .nil))))),(.node (.node .leaf (some (.blk false 91 2 [[.ptr 1 0,.sy (.prow 2 p.b.length)]])) .leaf) (some (.blk false 26 8 [[.sy (.imm p.hg 3 aw p.gs aD),.sy (.int 0 p.clients),.sy (.int 0 p.window),.sy (.int 0 p.deadline),.sy (.int 0 p.pace),.sy (.int 0 p.again),.sy (.int 0 p.bag),.sy (.int 4 p.first)]])) (.node .leaf (some (.prow 5 1 UInt8 p.b bw)) .leaf)),3)
noncomputable def lu (p:fh) (K:KC):Bool:=am fun r:oP=>iP (uS p r) (K 2 (.cons 3 (.ptr 1 0) (.cons 1 (.ptr 0 0) .nil)) (.node (.node .leaf (some (.blk false 91 2 [[.ptr 1 0,.sy (.prow 2 r.c.length)]])) .leaf) (some (.blk false 26 8 [[.sy (.imm p.hg 3 aw p.gs aD),.sy (.int 0 p.clients),.sy (.int 0 p.window),.sy (.int 0 p.deadline),.sy (.int 0 p.pace),.sy (.int 0 p.again),.sy (.int 0 p.bag),.sy (.int 4 p.first)]])) (.node .leaf (some (.prow 5 1 UInt8 r.c bw)) .leaf)) 3) true
def gw (p:fh):Prop:=0≤p.i∧p.i≤(p.gs.length:Int)∧p.gs.length≤4∧(∀g∈p.gs,iK g)∧(p.b.length:Int)≤200*p.i∧p.b≠[]
theorem Lu {p:fh} {K:KC} (hK:lu p K=true) (r:oP) (h:uS p r):K 2 (.cons 3 (.ptr 1 0) (.cons 1 (.ptr 0 0) .nil)) (.node (.node .leaf (some (.blk false 91 2 [[.ptr 1 0,.sy (.prow 2 r.c.length)]])) .leaf) (some (.blk false 26 8 [[.sy (.imm p.hg 3 aw p.gs aD),.sy (.int 0 p.clients),.sy (.int 0 p.window),.sy (.int 0 p.deadline),.sy (.int 0 p.pace),.sy (.int 0 p.again),.sy (.int 0 p.bag),.sy (.int 4 p.first)]])) (.node .leaf (some (.prow 5 1 UInt8 r.c bw)) .leaf)) 3=true:=au h (aG hK r)
noncomputable def uH (p:fh) (K:KC):Bool:=ac (aC (gw p)) (lu p K)
def gj (p:fh):Nat:=((p.gs.length:Int) - p.i).toNat
noncomputable def vL (S:SL) (M:T) (nx:Nat) (K:KC):Bool:=(Bool.rec (Bool.rec false (aF fun p:fh=>ac (aC ((S,M,nx)=kC p)) (uH p K)) (Nat.beq (UG M 2) 1)) (aF fun p:gz=>ac (aC ((S,M,nx)=mq p)) (uI p K)) (Nat.beq (UG M 2) 0))
inductive A_l_head where
 |v0 (p:gz)
 |v1 (p:fh)
noncomputable def Cg (q:A_l_head):IL:=A_l_head.casesOn q (fun p=>mq p) (fun p=>kC p)
def fc:A_l_head→Nat
 |.v0 p=>mT p
 |.v1 p=>gj p
noncomputable def wK (q:A_l_head) (K:KC):Bool:=A_l_head.casesOn q (fun p=>uI p K) (fun p=>uH p K)
noncomputable def FS (n:Nat) (K:KC):KC:=fun e S M nx=>Nat.casesOn e (aF fun q:A_l_head=>ac (aC ((S,M,nx)=Cg q∧fc q<n)) (wK q K)) (fun e2=>K (Nat.succ e2) S M nx)
noncomputable def mo (s:IL) (n:Nat) (K:KC):Bool:=aF fun q=>mP (s=Cg q∧fc q<n) (wK q K)
theorem Di {n:Nat} {q:fh} {K:KC} {s:IL} (hm:gj q<n) (hp:gw q) (hK:lu q K=true) (e:s=kC q):mo s n K=true:=aK (.v1 q) (ba ⟨e,hm⟩ (ba hp hK))
theorem Dj {p q:fh} {K:KC} {s:IL} (hm:gj q<gj p:=by dsimp only[gj]<;>(omega)) (hp:gw q:=by dsimp only[gw]<;>(exact⟨by omega,by omega,g2,gg,(by(try simp only[acA,acC,acB,acD]);omega),by simp⟩)) (hK:lu q K=true:=by exact(qw hK fun r hz=>⟨Ev (by omega) (by assumption) (by first|(rw[vT (by assumption)];simp;done)|(rw[vU (by assumption)];simp;done)) hz.1,hz.2⟩)) (e:s=kC q:=by rfl):mo s (fc (.v1 p)) K=true:=aK (.v1 q) (ba ⟨e,hm⟩ (ba hp hK))
noncomputable def uc:fE:=fun j S M nx K=>(Bool.rec (false) (vL S M nx K) (Nat.beq j 0))
theorem Nm (p:gz) (K:KC) (hpre:lq p) (hK:Ab p K=true):(cO (fC qT) uc 600 sI (mq p).1 (mq p).2.1 (mq p).2.2 (FS (fc (.v0 p)) K))=true:=by
 refine Eq.trans (b:=(iP (p.i<(p.gs.length:Int)) (mP (0≤p.i∧p.i<(p.gs.length:Int)) (am fun x1:aw=>iP (p.gs[p.i.toNat]?=some x1) (iP (x1.c) (mP (bp 0 x1.f) (mP (((.int 0 x1.s):SY)=(.int 0 x1.s)) (mP (t_4.length+(Lib.itoa x1.f).length≤9223372036854775807) (mP ((t_4++(Lib.itoa x1.f)).length+t_1.length≤9223372036854775807) (mP (bp 0 x1.s) (mP (((t_4++(Lib.itoa x1.f))++t_1).length+(Lib.itoa x1.s).length≤9223372036854775807) (mP ((((t_4++(Lib.itoa x1.f))++t_1)++(Lib.itoa x1.s)).length+t_1.length≤9223372036854775807) (mP (((((t_4++(Lib.itoa x1.f))++t_1)++(Lib.itoa x1.s))++t_1).length+t_3.length≤9223372036854775807) (mP ((((((t_4++(Lib.itoa x1.f))++t_1)++(Lib.itoa x1.s))++t_1)++t_3).length+t_0.length≤9223372036854775807) (mP (([]:List UInt8).length+((((((t_4++(Lib.itoa x1.f))++t_1)++(Lib.itoa x1.s))++t_1)++t_3)++t_0).length≤140737488355328) (mP (bp 0 (p.i+(1:Int))) (mo ((.cons 12 (.sy (.int 0 (p.i+(1:Int)))) (.cons 11 (.sy (.int 0 (p.gs.length:Int))) (.cons 10 (.sy (.imm p.hg 3 aw p.gs aD)) (.cons 3 (.ptr 1 0) (.cons 1 (.ptr 0 0) .nil))))),(.node (.node .leaf (some (.blk false 91 2 [[.ptr 1 0,.sy (.prow 2 ((([]:List UInt8)++((((((t_4++(Lib.itoa x1.f))++t_1)++(Lib.itoa x1.s))++t_1)++t_3)++t_0)).length))]])) .leaf) (some (.blk false 26 8 [[.sy (.imm p.hg 3 aw p.gs aD),.sy (.int 0 p.clients),.sy (.int 0 p.window),.sy (.int 0 p.deadline),.sy (.int 0 p.pace),.sy (.int 0 p.again),.sy (.int 0 p.bag),.sy (.int 4 p.first)]])) (.node .leaf (some (.prow 5 1 UInt8 (([]:List UInt8)++((((((t_4++(Lib.itoa x1.f))++t_1)++(Lib.itoa x1.s))++t_1)++t_3)++t_0)) bw)) .leaf)),3) (fc (.v0 p)) K)))))))))))) (mP (bp 0 x1.f) (mP (((.int 0 x1.s):SY)=(.int 0 x1.s)) (mP (t_4.length+(Lib.itoa x1.f).length≤9223372036854775807) (mP ((t_4++(Lib.itoa x1.f)).length+t_1.length≤9223372036854775807) (mP (bp 0 x1.s) (mP (((t_4++(Lib.itoa x1.f))++t_1).length+(Lib.itoa x1.s).length≤9223372036854775807) (mP ((((t_4++(Lib.itoa x1.f))++t_1)++(Lib.itoa x1.s)).length+t_1.length≤9223372036854775807) (mP (((((t_4++(Lib.itoa x1.f))++t_1)++(Lib.itoa x1.s))++t_1).length+t_5.length≤9223372036854775807) (mP ((((((t_4++(Lib.itoa x1.f))++t_1)++(Lib.itoa x1.s))++t_1)++t_5).length+t_0.length≤9223372036854775807) (mP (([]:List UInt8).length+((((((t_4++(Lib.itoa x1.f))++t_1)++(Lib.itoa x1.s))++t_1)++t_5)++t_0).length≤140737488355328) (mP (bp 0 (p.i+(1:Int))) (mo ((.cons 12 (.sy (.int 0 (p.i+(1:Int)))) (.cons 11 (.sy (.int 0 (p.gs.length:Int))) (.cons 10 (.sy (.imm p.hg 3 aw p.gs aD)) (.cons 3 (.ptr 1 0) (.cons 1 (.ptr 0 0) .nil))))),(.node (.node .leaf (some (.blk false 91 2 [[.ptr 1 0,.sy (.prow 2 ((([]:List UInt8)++((((((t_4++(Lib.itoa x1.f))++t_1)++(Lib.itoa x1.s))++t_1)++t_5)++t_0)).length))]])) .leaf) (some (.blk false 26 8 [[.sy (.imm p.hg 3 aw p.gs aD),.sy (.int 0 p.clients),.sy (.int 0 p.window),.sy (.int 0 p.deadline),.sy (.int 0 p.pace),.sy (.int 0 p.again),.sy (.int 0 p.bag),.sy (.int 4 p.first)]])) (.node .leaf (some (.prow 5 1 UInt8 (([]:List UInt8)++((((((t_4++(Lib.itoa x1.f))++t_1)++(Lib.itoa x1.s))++t_1)++t_5)++t_0)) bw)) .leaf)),3) (fc (.v0 p)) K))))))))))))) true)) (K 2 (.cons 3 (.ptr 1 0) (.cons 1 (.ptr 0 0) .nil)) (.node (.node .leaf (some (.blk false 91 2 [[.nilP,.nilS]])) .leaf) (some (.blk false 26 8 [[.sy (.imm p.hg 3 aw p.gs aD),.sy (.int 0 p.clients),.sy (.int 0 p.window),.sy (.int 0 p.deadline),.sy (.int 0 p.pace),.sy (.int 0 p.again),.sy (.int 0 p.bag),.sy (.int 4 p.first)]])) .leaf) 2))) (by kernel_rfl) ?_
 dsimp only[lq]at hpre
 obtain⟨g0,g1,gg⟩:=hpre
 refine iI (fun hc1=> ?_) (fun hc1=> ?_)
 refine er ?_
 refine az (fun x1=> ?_)
 refine iI (fun hi2=> ?_) (fun _=>rfl)
 have hg_x1:(0≤x1.f∧x1.f≤1099511627776)∧(0≤x1.s∧x1.s≤1099511627776):=gg _ (acF (by assumption:p.gs[p.i.toNat]?=some x1))
 have hf_x1:=dP (z:=x1.f) hg_x1.1.1 (by omega)
 have hs_x1:=dP (z:=x1.s) hg_x1.2.1 (by omega)
 refine iI (fun hc3=> ?_) (fun hc3=> ?_)
 refine bG (aL (iQ (iQ (bG (iQ ?_)))))
 refine iQ (iQ (iQ (iQ ?_)))
 refine bG ?_
 exact Di (n:=fc (.v0 p)) (q:=⟨p.hg,p.gs,p.clients,p.window,p.deadline,p.pace,p.again,p.bag,p.first,([]:List UInt8)++((((((t_4++(Lib.itoa x1.f))++t_1)++(Lib.itoa x1.s))++t_1)++t_3)++t_0),p.i+(1:Int)⟩) (by show gj _<mT p;dsimp only[gj,mT];omega) (by dsimp only[gw];(exact⟨by omega,by omega,by omega,gg,(by(try simp only[acA,acC,acB,acD]);omega),by simp⟩)) (Fz (fun r:oP=>(⟨r.c⟩:sO)) hK fun r hz=>⟨by have e:=Ev (b:=[]) (by omega) (by assumption) (by first|(rw[vT (by assumption)];simp;done)|(rw[vU (by assumption)];simp;done)) hz.1;simpa using e,hz.2⟩) rfl
 refine bG (aL (iQ (iQ (bG (iQ ?_)))))
 refine iQ (iQ (iQ (iQ ?_)))
 refine bG ?_
 exact Di (n:=fc (.v0 p)) (q:=⟨p.hg,p.gs,p.clients,p.window,p.deadline,p.pace,p.again,p.bag,p.first,([]:List UInt8)++((((((t_4++(Lib.itoa x1.f))++t_1)++(Lib.itoa x1.s))++t_1)++t_5)++t_0),p.i+(1:Int)⟩) (by show gj _<mT p;dsimp only[gj,mT];omega) (by dsimp only[gw];(exact⟨by omega,by omega,by omega,gg,(by(try simp only[acA,acC,acB,acD]);omega),by simp⟩)) (Fz (fun r:oP=>(⟨r.c⟩:sO)) hK fun r hz=>⟨by have e:=Ev (b:=[]) (by omega) (by assumption) (by first|(rw[vT (by assumption)];simp;done)|(rw[vU (by assumption)];simp;done)) hz.1;simpa using e,hz.2⟩) rfl
 exfalso;omega
theorem Nl (p:fh) (K:KC) (hpre:gw p) (hK:lu p K=true):(cO (fC qT) uc 600 sI (kC p).1 (kC p).2.1 (kC p).2.2 (FS (fc (.v1 p)) K))=true:=by
 refine Eq.trans (b:=(iP (p.i<(p.gs.length:Int)) (mP (0≤p.i∧p.i<(p.gs.length:Int)) (am fun x1:aw=>iP (p.gs[p.i.toNat]?=some x1) (iP (x1.c) (mP (bp 0 x1.f) (mP (((.int 0 x1.s):SY)=(.int 0 x1.s)) (mP (t_4.length+(Lib.itoa x1.f).length≤9223372036854775807) (mP ((t_4++(Lib.itoa x1.f)).length+t_1.length≤9223372036854775807) (mP (bp 0 x1.s) (mP (((t_4++(Lib.itoa x1.f))++t_1).length+(Lib.itoa x1.s).length≤9223372036854775807) (mP ((((t_4++(Lib.itoa x1.f))++t_1)++(Lib.itoa x1.s)).length+t_1.length≤9223372036854775807) (mP (((((t_4++(Lib.itoa x1.f))++t_1)++(Lib.itoa x1.s))++t_1).length+t_3.length≤9223372036854775807) (mP ((((((t_4++(Lib.itoa x1.f))++t_1)++(Lib.itoa x1.s))++t_1)++t_3).length+t_0.length≤9223372036854775807) (aF fun b1:List UInt8=>mP (p.b.map bw=b1.map bw) (mP (p.b.length=b1.length) (mP (b1.length+((((((t_4++(Lib.itoa x1.f))++t_1)++(Lib.itoa x1.s))++t_1)++t_3)++t_0).length≤140737488355328) (mP (bp 0 (p.i+(1:Int))) (mo ((.cons 12 (.sy (.int 0 (p.i+(1:Int)))) (.cons 11 (.sy (.int 0 (p.gs.length:Int))) (.cons 10 (.sy (.imm p.hg 3 aw p.gs aD)) (.cons 3 (.ptr 1 0) (.cons 1 (.ptr 0 0) .nil))))),(.node (.node .leaf (some (.blk false 91 2 [[.ptr 1 0,.sy (.prow 2 ((b1++((((((t_4++(Lib.itoa x1.f))++t_1)++(Lib.itoa x1.s))++t_1)++t_3)++t_0)).length))]])) .leaf) (some (.blk false 26 8 [[.sy (.imm p.hg 3 aw p.gs aD),.sy (.int 0 p.clients),.sy (.int 0 p.window),.sy (.int 0 p.deadline),.sy (.int 0 p.pace),.sy (.int 0 p.again),.sy (.int 0 p.bag),.sy (.int 4 p.first)]])) (.node .leaf (some (.prow 5 1 UInt8 (b1++((((((t_4++(Lib.itoa x1.f))++t_1)++(Lib.itoa x1.s))++t_1)++t_3)++t_0)) bw)) .leaf)),3) (fc (.v1 p)) K)))))))))))))) (mP (bp 0 x1.f) (mP (((.int 0 x1.s):SY)=(.int 0 x1.s)) (mP (t_4.length+(Lib.itoa x1.f).length≤9223372036854775807) (mP ((t_4++(Lib.itoa x1.f)).length+t_1.length≤9223372036854775807) (mP (bp 0 x1.s) (mP (((t_4++(Lib.itoa x1.f))++t_1).length+(Lib.itoa x1.s).length≤9223372036854775807) (mP ((((t_4++(Lib.itoa x1.f))++t_1)++(Lib.itoa x1.s)).length+t_1.length≤9223372036854775807) (mP (((((t_4++(Lib.itoa x1.f))++t_1)++(Lib.itoa x1.s))++t_1).length+t_5.length≤9223372036854775807) (mP ((((((t_4++(Lib.itoa x1.f))++t_1)++(Lib.itoa x1.s))++t_1)++t_5).length+t_0.length≤9223372036854775807) (aF fun b2:List UInt8=>mP (p.b.map bw=b2.map bw) (mP (p.b.length=b2.length) (mP (b2.length+((((((t_4++(Lib.itoa x1.f))++t_1)++(Lib.itoa x1.s))++t_1)++t_5)++t_0).length≤140737488355328) (mP (bp 0 (p.i+(1:Int))) (mo ((.cons 12 (.sy (.int 0 (p.i+(1:Int)))) (.cons 11 (.sy (.int 0 (p.gs.length:Int))) (.cons 10 (.sy (.imm p.hg 3 aw p.gs aD)) (.cons 3 (.ptr 1 0) (.cons 1 (.ptr 0 0) .nil))))),(.node (.node .leaf (some (.blk false 91 2 [[.ptr 1 0,.sy (.prow 2 ((b2++((((((t_4++(Lib.itoa x1.f))++t_1)++(Lib.itoa x1.s))++t_1)++t_5)++t_0)).length))]])) .leaf) (some (.blk false 26 8 [[.sy (.imm p.hg 3 aw p.gs aD),.sy (.int 0 p.clients),.sy (.int 0 p.window),.sy (.int 0 p.deadline),.sy (.int 0 p.pace),.sy (.int 0 p.again),.sy (.int 0 p.bag),.sy (.int 4 p.first)]])) (.node .leaf (some (.prow 5 1 UInt8 (b2++((((((t_4++(Lib.itoa x1.f))++t_1)++(Lib.itoa x1.s))++t_1)++t_5)++t_0)) bw)) .leaf)),3) (fc (.v1 p)) K))))))))))))))) true)) (K 2 (.cons 3 (.ptr 1 0) (.cons 1 (.ptr 0 0) .nil)) (.node (.node .leaf (some (.blk false 91 2 [[.ptr 1 0,.sy (.prow 2 p.b.length)]])) .leaf) (some (.blk false 26 8 [[.sy (.imm p.hg 3 aw p.gs aD),.sy (.int 0 p.clients),.sy (.int 0 p.window),.sy (.int 0 p.deadline),.sy (.int 0 p.pace),.sy (.int 0 p.again),.sy (.int 0 p.bag),.sy (.int 4 p.first)]])) (.node .leaf (some (.prow 5 1 UInt8 p.b bw)) .leaf)) 3))) (by kernel_rfl) ?_
 dsimp only[gw]at hpre
 obtain⟨g0,g1,g2,gg,g4,g5⟩:=hpre
 refine iI (fun hc1=> ?_) (fun hc1=> ?_)
 refine er ?_
 refine az (fun x1=> ?_)
 refine iI (fun hi2=> ?_) (fun _=>rfl)
 have hg_x1:(0≤x1.f∧x1.f≤1099511627776)∧(0≤x1.s∧x1.s≤1099511627776):=gg _ (acF (by assumption:p.gs[p.i.toNat]?=some x1))
 have hf_x1:=dP (z:=x1.f) hg_x1.1.1 (by omega)
 have hs_x1:=dP (z:=x1.s) hg_x1.2.1 (by omega)
 refine iI (fun hc3=> ?_) (fun hc3=> ?_)
 refine bG (aL (iQ (iQ (bG (iQ ?_)))))
 refine iQ (iQ (iQ ?_))
 refine aK p.b ?_
 refine aL (aL (mI (by(try dsimp only);(try simp only[acA,acC,acB,acD]);omega) (bG ?_)))
 exact Dj (q:=⟨p.hg,p.gs,p.clients,p.window,p.deadline,p.pace,p.again,p.bag,p.first,p.b++((((((t_4++(Lib.itoa x1.f))++t_1)++(Lib.itoa x1.s))++t_1)++t_3)++t_0),p.i+(1:Int)⟩)
 refine bG (aL (iQ (iQ (bG (iQ ?_)))))
 refine iQ (iQ (iQ ?_))
 refine aK p.b ?_
 refine aL (aL (mI (by(try dsimp only);(try simp only[acA,acC,acB,acD]);omega) (bG ?_)))
 exact Dj (q:=⟨p.hg,p.gs,p.clients,p.window,p.deadline,p.pace,p.again,p.bag,p.first,p.b++((((((t_4++(Lib.itoa x1.f))++t_1)++(Lib.itoa x1.s))++t_1)++t_5)++t_0),p.i+(1:Int)⟩)
 exact Lu hK ⟨p.b⟩ (by dsimp only[uS]<;>(exact⟨by rw[BC (by omega)];simp,by omega,g5⟩))
theorem QB:dI Tryz.prog 58 0 uc true 0 sI:=by
 refine eM (lf:=600) bm (cK tn) (by rfl) Cg fc wK (fun b j x h=>by cases h) (fun S M nx K h=> ?_) (fun p K h=> ?_)
 ·have h:vL S M nx K=true:=h
  unfold vL at h
  rcases PG h with⟨_,h⟩|⟨_,h⟩
  ·obtain⟨p,h⟩:=bL h;exact⟨.v0 p,(aa h).1,(aa h).2⟩
  rcases PG h with⟨_,h⟩|⟨_,h⟩
  ·obtain⟨p,h⟩:=bL h;exact⟨.v1 p,(aa h).1,(aa h).2⟩
  cases h
 ·cases p with
  |v0 p=>have h:uI p K=true:=h;exact Nm p K (aa h).1 (aa h).2
  |v1 p=>have h:uH p K=true:=h;exact Nl p K (aa h).1 (aa h).2
structure rE where
 hg:Value
 gs:List aw
 clients:Int
 window:Int
 deadline:Int
 pace:Int
 again:Int
 bag:Int
 first:Int
structure KI where
 s:List UInt8
def tR (p:rE) (r:KI):Prop:=r.s=pC p.gs p.clients p.window p.deadline p.pace p.again p.bag p.first∧r.s.length≤2000
noncomputable def yI (p:rE):IE:=([.agg [.sy (.imm p.hg 3 aw p.gs aD),.sy (.int 0 p.clients),.sy (.int 0 p.window),.sy (.int 0 p.deadline),.sy (.int 0 p.pace),.sy (.int 0 p.again),.sy (.int 0 p.bag),.sy (.int 4 p.first)]],.leaf,0)
noncomputable def AX (p:rE) (K:KE):Bool:=am fun r:KI=>iP (tR p r) (K (.sy (.str r.s)) .leaf 0) true
def qn (p:rE):Prop:=(1≤p.gs.length∧p.gs.length≤4)∧(∀g∈p.gs,iK g)∧((0≤p.clients∧p.clients≤1099511627776)∧(0≤p.window∧p.window≤1099511627776)∧(0≤p.deadline∧p.deadline≤1099511627776)∧(0≤p.pace∧p.pace≤1099511627776)∧(0≤p.again∧p.again≤1099511627776)∧(0≤p.bag∧p.bag≤1099511627776))∧0≤p.first∧p.first≤18446744073709551615
theorem TH {p:rE} {K:KE} (hK:AX p K=true) (r:KI) (h:tR p r):K (.sy (.str r.s)) .leaf 0=true:=au h (aG hK r)
theorem Va (p:rE) (K:KE) (hpre:qn p) (hK:AX p K=true):(bW 0 (fC qT) uc 600 Mx (yI p).1 (yI p).2.1 (yI p).2.2 K)=true:=by
 refine Eq.trans (b:=(aM (((.cons 12 (.sy (.int 0 0)) (.cons 11 (.sy (.int 0 (p.gs.length:Int))) (.cons 10 (.sy (.imm p.hg 3 aw p.gs aD)) (.cons 3 (.ptr 1 0) (.cons 1 (.ptr 0 0) .nil))))),(.node (.node .leaf (some (.blk false 91 2 [[.nilP,.nilS]])) .leaf) (some (.blk false 26 8 [[.sy (.imm p.hg 3 aw p.gs aD),.sy (.int 0 p.clients),.sy (.int 0 p.window),.sy (.int 0 p.deadline),.sy (.int 0 p.pace),.sy (.int 0 p.again),.sy (.int 0 p.bag),.sy (.int 4 p.first)]])) .leaf),2)) mq lq uT fun p1 r1=>mP (bp 0 p1.clients) (mP (t_10.length+(Lib.itoa p1.clients).length≤9223372036854775807) (mP ((t_10++(Lib.itoa p1.clients)).length+t_0.length≤9223372036854775807) (aF fun b1:List UInt8=>mP (r1.c.map bw=b1.map bw) (mP (r1.c.length=b1.length) (mP (b1.length+((t_10++(Lib.itoa p1.clients))++t_0).length≤140737488355328) (mP (bp 0 p1.window) (mP (t_12.length+(Lib.itoa p1.window).length≤9223372036854775807) (mP ((t_12++(Lib.itoa p1.window)).length+t_0.length≤9223372036854775807) (aF fun b2:List UInt8=>mP ((b1++((t_10++(Lib.itoa p1.clients))++t_0)).map bw=b2.map bw) (mP ((b1++((t_10++(Lib.itoa p1.clients))++t_0)).length=b2.length) (mP (b2.length+((t_12++(Lib.itoa p1.window))++t_0).length≤140737488355328) (mP (bp 0 p1.deadline) (mP (t_15.length+(Lib.itoa p1.deadline).length≤9223372036854775807) (mP ((t_15++(Lib.itoa p1.deadline)).length+t_0.length≤9223372036854775807) (aF fun b3:List UInt8=>mP ((b2++((t_12++(Lib.itoa p1.window))++t_0)).map bw=b3.map bw) (mP ((b2++((t_12++(Lib.itoa p1.window))++t_0)).length=b3.length) (mP (b3.length+((t_15++(Lib.itoa p1.deadline))++t_0).length≤140737488355328) (mP (bp 0 p1.pace) (mP (t_20.length+(Lib.itoa p1.pace).length≤9223372036854775807) (mP ((t_20++(Lib.itoa p1.pace)).length+t_0.length≤9223372036854775807) (aF fun b4:List UInt8=>mP ((b3++((t_15++(Lib.itoa p1.deadline))++t_0)).map bw=b4.map bw) (mP ((b3++((t_15++(Lib.itoa p1.deadline))++t_0)).length=b4.length) (mP (b4.length+((t_20++(Lib.itoa p1.pace))++t_0).length≤140737488355328) (mP (bp 0 p1.again) (mP (t_22.length+(Lib.itoa p1.again).length≤9223372036854775807) (mP ((t_22++(Lib.itoa p1.again)).length+t_0.length≤9223372036854775807) (aF fun b5:List UInt8=>mP ((b4++((t_20++(Lib.itoa p1.pace))++t_0)).map bw=b5.map bw) (mP ((b4++((t_20++(Lib.itoa p1.pace))++t_0)).length=b5.length) (mP (b5.length+((t_22++(Lib.itoa p1.again))++t_0).length≤140737488355328) (mP (bp 0 p1.bag) (mP (t_24.length+(Lib.itoa p1.bag).length≤9223372036854775807) (mP ((t_24++(Lib.itoa p1.bag)).length+t_0.length≤9223372036854775807) (aF fun b6:List UInt8=>mP ((b5++((t_22++(Lib.itoa p1.again))++t_0)).map bw=b6.map bw) (mP ((b5++((t_22++(Lib.itoa p1.again))++t_0)).length=b6.length) (mP (b6.length+((t_24++(Lib.itoa p1.bag))++t_0).length≤140737488355328) (mP (bp 4 p1.first) (mP (t_25.length+(Lib.itoa p1.first).length≤9223372036854775807) (mP ((t_25++(Lib.itoa p1.first)).length+t_0.length≤9223372036854775807) (aF fun b7:List UInt8=>mP ((b6++((t_24++(Lib.itoa p1.bag))++t_0)).map bw=b7.map bw) (mP ((b6++((t_24++(Lib.itoa p1.bag))++t_0)).length=b7.length) (mP (b7.length+((t_25++(Lib.itoa p1.first))++t_0).length≤140737488355328) (aF fun b8:List UInt8=>mP ((b7++((t_25++(Lib.itoa p1.first))++t_0)).map bw=b8.map bw) (mP ((b7++((t_25++(Lib.itoa p1.first))++t_0)).length=b8.length) (mP (b8≠[]) (K (.sy (.str b8)) .leaf 0))))))))))))))))))))))))))))))))))))))))))))))) (by kernel_rfl) ?_
 dsimp only[qn]at hpre
 obtain⟨q1,q2,q3,q4⟩:=hpre
 have qi0:=dP (z:=p.clients) (by omega) (by omega)
 have qi1:=dP (z:=p.window) (by omega) (by omega)
 have qi2:=dP (z:=p.deadline) (by omega) (by omega)
 have qi3:=dP (z:=p.pace) (by omega) (by omega)
 have qi4:=dP (z:=p.again) (by omega) (by omega)
 have qi5:=dP (z:=p.bag) (by omega) (by omega)
 have qi6:=dP (z:=p.first) (by omega) (by omega)
 refine ay (⟨p.hg,p.gs,p.clients,p.window,p.deadline,p.pace,p.again,p.bag,p.first,(0:Int)⟩:gz) rfl (by(try dsimp only[lq]);exact⟨rfl,q1,q2⟩) fun r1 hi1=> ?_
 dsimp only[uT]at hi1
 refine bG (mI (by(try dsimp only);(try simp only[acA,acC,acB,acD]);omega) (mI (by(try dsimp only);(try simp only[acA,acC,acB,acD]);omega) ?_))
 refine aK r1.c ?_
 refine aL (aL (mI (by(try dsimp only);(try simp only[acA,acC,acB,acD]);omega) (bG (mI (by(try dsimp only);(try simp only[acA,acC,acB,acD]);omega) (mI (by(try dsimp only);(try simp only[acA,acC,acB,acD]);omega) ?_)))))
 refine aK (r1.c++((t_10++(Lib.itoa p.clients))++t_0)) ?_
 refine aL (aL (mI (by(try dsimp only);(try simp only[acA,acC,acB,acD]);omega) (bG (mI (by(try dsimp only);(try simp only[acA,acC,acB,acD]);omega) (mI (by(try dsimp only);(try simp only[acA,acC,acB,acD]);omega) ?_)))))
 refine aK ((r1.c++((t_10++(Lib.itoa p.clients))++t_0))++((t_12++(Lib.itoa p.window))++t_0)) ?_
 refine aL (aL (mI (by(try dsimp only);(try simp only[acA,acC,acB,acD]);omega) (bG (mI (by(try dsimp only);(try simp only[acA,acC,acB,acD]);omega) (mI (by(try dsimp only);(try simp only[acA,acC,acB,acD]);omega) ?_)))))
 refine aK (((r1.c++((t_10++(Lib.itoa p.clients))++t_0))++((t_12++(Lib.itoa p.window))++t_0))++((t_15++(Lib.itoa p.deadline))++t_0)) ?_
 refine aL (aL (mI (by(try dsimp only);(try simp only[acA,acC,acB,acD]);omega) (bG (mI (by(try dsimp only);(try simp only[acA,acC,acB,acD]);omega) (mI (by(try dsimp only);(try simp only[acA,acC,acB,acD]);omega) ?_)))))
 refine aK ((((r1.c++((t_10++(Lib.itoa p.clients))++t_0))++((t_12++(Lib.itoa p.window))++t_0))++((t_15++(Lib.itoa p.deadline))++t_0))++((t_20++(Lib.itoa p.pace))++t_0)) ?_
 refine aL (aL (mI (by(try dsimp only);(try simp only[acA,acC,acB,acD]);omega) (bG (mI (by(try dsimp only);(try simp only[acA,acC,acB,acD]);omega) (mI (by(try dsimp only);(try simp only[acA,acC,acB,acD]);omega) ?_)))))
 refine aK (((((r1.c++((t_10++(Lib.itoa p.clients))++t_0))++((t_12++(Lib.itoa p.window))++t_0))++((t_15++(Lib.itoa p.deadline))++t_0))++((t_20++(Lib.itoa p.pace))++t_0))++((t_22++(Lib.itoa p.again))++t_0)) ?_
 refine aL (aL (mI (by(try dsimp only);(try simp only[acA,acC,acB,acD]);omega) (bG (mI (by(try dsimp only);(try simp only[acA,acC,acB,acD]);omega) (mI (by(try dsimp only);(try simp only[acA,acC,acB,acD]);omega) ?_)))))
 refine aK ((((((r1.c++((t_10++(Lib.itoa p.clients))++t_0))++((t_12++(Lib.itoa p.window))++t_0))++((t_15++(Lib.itoa p.deadline))++t_0))++((t_20++(Lib.itoa p.pace))++t_0))++((t_22++(Lib.itoa p.again))++t_0))++((t_24++(Lib.itoa p.bag))++t_0)) ?_
 refine aL (aL (mI (by(try dsimp only);(try simp only[acA,acC,acB,acD]);omega) ?_))
 refine aK (((((((r1.c++((t_10++(Lib.itoa p.clients))++t_0))++((t_12++(Lib.itoa p.window))++t_0))++((t_15++(Lib.itoa p.deadline))++t_0))++((t_20++(Lib.itoa p.pace))++t_0))++((t_22++(Lib.itoa p.again))++t_0))++((t_24++(Lib.itoa p.bag))++t_0))++((t_25++(Lib.itoa p.first))++t_0)) ?_
 refine aL (aL (Qw ?_))
 exact TH hK ⟨(((((((r1.c++((t_10++(Lib.itoa p.clients))++t_0))++((t_12++(Lib.itoa p.window))++t_0))++((t_15++(Lib.itoa p.deadline))++t_0))++((t_20++(Lib.itoa p.pace))++t_0))++((t_22++(Lib.itoa p.again))++t_0))++((t_24++(Lib.itoa p.bag))++t_0))++((t_25++(Lib.itoa p.first))++t_0))⟩ (by dsimp only[tR]<;>(refine⟨?_,(by(try simp only[acA,acC,acB,acD]);omega)⟩;have e9:=hi1.1;simp only[Int.toNat_zero,List.drop_zero]at e9;rw[e9];simp[pC]))
noncomputable def vH:=bt qT 0 (bJ yI (dr qn AX)) 32 [(0,15)]
theorem tu:aV Tryz.prog vH:=aR (bU (f:=32) (k:=0) (lp:=uc) (lf:=600) bm (cK tn) OD (by rfl) (fun b j x h=>(cy QB (fun h=>(by cases h)) h)) fun p K h=>Va p K (aa h).1 (aa h).2) tn
noncomputable def cA (s:bN):List UInt8:=pC s.gs s.clients s.window s.deadline s.pace s.again s.bag s.first++(s.os.map fH).flatten
theorem Nr {os:List ax} {i:Int} {x:ax} {w s:List UInt8} (h0:0≤i) (hx:os[i.toNat]?=some x) (hs:s=fH x):(w++s)++((os.drop (i+1).toNat).map fH).flatten=w++((os.drop i.toNat).map fH).flatten:=by
 rw[yi h0 hx,hs];simp
theorem Tx {s:bN} (h:cB s) (h2:lU s):(1≤s.gs.length∧s.gs.length≤4)∧(∀g∈s.gs,iK g)∧((0≤s.clients∧s.clients≤1099511627776)∧(0≤s.window∧s.window≤1099511627776)∧(0≤s.deadline∧s.deadline≤1099511627776)∧(0≤s.pace∧s.pace≤1099511627776)∧(0≤s.again∧s.again≤1099511627776)∧(0≤s.bag∧s.bag≤1099511627776))∧0≤s.first∧s.first≤18446744073709551615:=by
 unfold cB at h
 unfold lU at h2
 obtain⟨a1,a2,b1,b2,b3,b4,b5,b6,_⟩:=h
 exact⟨a1,a2,⟨b1,b2,b3,b4,b5,b6⟩,h2.2.2.1⟩
theorem aah {s:bN} (h:cB s):∀o∈s.os,cn o:=by
 unfold cB at h
 obtain⟨_,_,_,_,_,_,_,_,h⟩:=h
 exact h
theorem ZT {s:bN} (h:lU s):∀o∈s.os,pd o:=h.2.2.2
theorem Wt (gs:List aw) (a b c d e f g:Int):¬([]:List UInt8)=pC gs a b c d e f g:=by
 intro h
 have h2:=congrArg List.length h
 simp[pC]at h2
def EO:XC:=(.aft (.seq (g_ 1 [p_ 0 18 (.bin 3 0 (.t 17) (.t 16))]) (.seq (.cond (.t 18) .skip (.exit 2)) (.seq (.block 3 (.seq (g_ 4 [p_ 0 19 (.ixs 9 (.t 15) (.t 17)),r_ 1 20 (.ld true 9 (.t 19)),e_ 2 6 (.al 54 [.int 0 (.ofNat 0),.int 0 (.ofNat 0),.int 0 (.ofNat 0),.int 0 (.ofNat 0),.int 0 (.ofNat 0),.int 0 (.ofNat 0),.int 3 (.ofNat 0),.int 1 (.ofNat 0),.nilS]),bl 3 (.st 9 (.t 6) (.t 20))]) (.seq (g_ 3 [r_ 0 21 (.ld true 9 (.t 6)),c_ 1 22 33 [.t 21],c_ 2 23 31 [.t 4,.t 22]]) (.seq (g_ 2 [c_ 0 24 34 [.t 4],p_ 1 25 (.bin 3 2 (.t 24) (i_ 65536))]) (.cond (.t 25) (.seq (g_ 2 [p_ 0 2 (.mv (.c (.str []))),p_ 1 3 (.mv (i_ 5))]) .ret) .skip))))) (g_ 2 [p_ 0 26 (.bin 0 0 (.t 17) (i_ 1)),p_ 1 17 (m_ 26)])))) [(0,[.can 0 [4,15,16,17]]),(1,[.can 0 [2,3]]),(2,[.can 0 [4]])])
def Jt:XF:=.mk 28 (.two 2 3) (.seq (g_ 3 [e_ 0 1 (.box 29 (.t 0)),p_ 1 2 (.mv (.c (.str []))),p_ 2 3 (.mv (i_ 0))]) (.seq (.seq (g_ 3 [r_ 0 7 (.ld true 9 (.t 1)),c_ 1 8 13 [.t 7],p_ 2 9 (.un 0 (.t 8))]) (.cond (.t 9) (.seq (g_ 2 [p_ 0 2 (.mv (.c (.str []))),p_ 1 3 (.mv (i_ 1))]) .ret) .skip)) (.seq (g_ 1 [e_ 0 4 (.al 91 [.nilP,.nilS])]) (.seq (g_ 4 [p_ 0 10 (f_ 0 1),r_ 1 11 (.ld true 8 (.t 10)),c_ 2 12 32 [.t 11],c_ 3 13 31 [.t 4,.t 12]]) (.seq (.seq (g_ 4 [p_ 0 14 (f_ 8 1),r_ 1 15 (l_ 14),p_ 2 16 (k_ 15),p_ 3 17 (.mv (i_ 0))]) (.block 2 (.pre [.can 0 [4,15,16,17],.up 16,.up 17,.can 0 [4,15,16,17]] (.inv 0 EO)))) (.seq (g_ 3 [c_ 0 27 35 [.t 4],p_ 1 2 (m_ 27),p_ 2 3 (.mv (i_ 0))]) .ret))))))
theorem Lh:bE Tryz.prog 11 Jt=true:=by kernel_rfl
structure iX where
 ho:Value
 os:List ax
 b:List UInt8
 i:Int
structure Dt where
 c:List UInt8
def LW (p:iX) (r:Dt):Prop:=r.c=p.b++((p.os.drop p.i.toNat).map fH).flatten∧r.c.length≤65536∧r.c≠[]
def AL (p:iX):Prop:=65536<(p.b++((p.os.drop p.i.toNat).map fH).flatten).length
noncomputable def nf (p:iX):IL:=((.cons 17 (.sy (.int 0 p.i)) (.cons 16 (.sy (.int 0 (p.os.length:Int))) (.cons 15 (.sy (.imm p.ho 9 ax p.os aI)) (.cons 4 (.ptr 0 0) .nil)))),(.node (.node .leaf (some (.prow 5 1 UInt8 p.b bw)) .leaf) (some (.blk false 91 2 [[.ptr 0 0,.sy (.prow 1 p.b.length)]])) .leaf),2)
noncomputable def AU (p:iX) (K:KC):Bool:=ac (am fun r:Dt=>iP (LW p r) (K 2 (.cons 4 (.ptr 0 0) .nil) (.node (.node .leaf (some (.prow 5 1 UInt8 r.c bw)) .leaf) (some (.blk false 91 2 [[.ptr 0 0,.sy (.prow 1 r.c.length)]])) .leaf) 2) true) (iP (AL p) (K 1 (.cons 3 (.int 0 (.ofNat 5)) (.cons 2 (.str []) .nil)) .leaf 0) true)
def lD (p:iX):Prop:=gT p.os∧0≤p.i∧p.i≤(p.os.length:Int)∧(∀o∈p.os,cn o)∧(∀o∈p.os,pd o)∧p.b.length≤65536∧p.b≠[]
noncomputable def yQ (p:iX) (K:KC):Bool:=ac (aC (lD p)) (AU p K)
noncomputable def vN:fE:=fun j S M nx K=>(Bool.rec (false) (aF fun p:iX=>ac (aC ((S,M,nx)=nf p)) (yQ p K)) (Nat.beq j 0))
def kN (p:iX):Nat:=((p.os.length:Int) - p.i).toNat
noncomputable def MO (s:IL) (n:Nat) (K:KC):Bool:=aF fun q=>mP (s=nf q∧kN q<n) (yQ q K)
theorem WO {p q:iX} {K:KC} {s:IL} (hm:kN q<kN p) (hp:lD q) (hK:AU q K=true) (e:s=nf q):MO s (kN p) K=true:=aK q (ba ⟨e,hm⟩ (ba hp hK))
theorem Ve (p:iX) (K:KC) (hpre:lD p) (hK:AU p K=true):(cO (fC vH) vN 600 EO (nf p).1 (nf p).2.1 (nf p).2.2 (fun e S M nx=>Nat.casesOn e (aF fun q:iX=>ac (aC ((S,M,nx)=nf q∧kN q<kN p)) (yQ q K)) (fun e2=>K (Nat.succ e2) S M nx)))=true:=by
 refine Eq.trans (b:=(iP (p.i<(p.os.length:Int)) (mP (0≤p.i∧p.i<(p.os.length:Int)) (am fun x1:ax=>iP (p.os[p.i.toNat]?=some x1) (aM (([.agg [.sy (.int 0 x1.kind),.sy (.int 0 x1.x),.sy (.int 0 x1.y),.sy (.int 0 x1.i),.sy (.int 0 x1.at_),.sy (.int 0 x1.mode),.sy (.int 3 x1.mask),.sy (.int 1 x1.grp),.sy (.imm x1.hp 5 aB x1.ps encP)]],.leaf,0)) yF ql eX fun p1 r1=>aF fun b1:List UInt8=>mP (p.b.map bw=b1.map bw) (mP (p.b.length=b1.length) (mP (b1.length+r1.s.length≤140737488355328) (iP ((65536:Int)<((b1++r1.s).length:Int)) (K 1 (.cons 3 (.int 0 (.ofNat 5)) (.cons 2 (.str []) .nil)) .leaf 0) (mP (bp 0 (p.i+(1:Int))) (MO ((.cons 17 (.sy (.int 0 (p.i+(1:Int)))) (.cons 16 (.sy (.int 0 (p.os.length:Int))) (.cons 15 (.sy (.imm p.ho 9 ax p.os aI)) (.cons 4 (.ptr 0 0) .nil)))),(.node (.node .leaf (some (.prow 5 1 UInt8 (b1++r1.s) bw)) .leaf) (some (.blk false 91 2 [[.ptr 0 0,.sy (.prow 1 ((b1++r1.s).length))]])) .leaf),2) (kN p) K)))))) true)) (K 2 (.cons 4 (.ptr 0 0) .nil) (.node (.node .leaf (some (.prow 5 1 UInt8 p.b bw)) .leaf) (some (.blk false 91 2 [[.ptr 0 0,.sy (.prow 1 p.b.length)]])) .leaf) 2))) (by kernel_rfl) ?_
 obtain⟨hK0,hKr0⟩:=ai hK
 have hK1:=hKr0
 dsimp only[lD]at hpre
 obtain⟨g0,g1,g2,g3,g4,g5,g6⟩:=hpre
 have g9:=g0.1
 refine iI (fun hc1=> ?_) (fun hc1=> ?_)
 refine er ?_
 refine az (fun x1=> ?_)
 refine iI (fun hi2=> ?_) (fun _=>rfl)
 have hg_x1:=g3 _ (acF (by assumption:p.os[p.i.toNat]?=some x1))
 have hr_x1:=g4 _ (acF (by assumption:p.os[p.i.toNat]?=some x1))
 have hm_x1:=g0.2 _ x1 (by assumption)
 refine ay (⟨x1⟩:rB) rfl (by(try dsimp only[ql]);exact⟨by assumption,by assumption,by assumption⟩) fun r1 hi3=> ?_
 dsimp only[eX]at hi3
 refine aK p.b ?_
 refine aL (aL (mI (by(try dsimp only);(try simp only[acA,acC,acB,acD]);omega) ?_))
 refine iI (p:=(65536:Int)<((p.b++r1.s).length:Int)) (fun hc4=> ?_) (fun hc4=> ?_)
 exact au (show 65536<(p.b++((p.os.drop p.i.toNat).map fH).flatten).length from(by have e:=Nr (w:=p.b) g1 (by assumption) hi3.1;rw[←e,acA];omega)) hK1
 refine bG ?_
 exact WO (q:=⟨p.ho,p.os,p.b++r1.s,p.i+(1:Int)⟩) (by dsimp only[kN];omega) (by dsimp only[lD];exact⟨g0,by omega,by omega,g3,g4,(by first|omega|(simp only[acA]at*;omega)),by simp[g6]⟩) (aE (qw hK0 fun r hz=>⟨by rw[hz.1];exact Nr g1 (by assumption) hi3.1,hz.2⟩) (iI (fun hz=>au (by have e:=Nr (w:=p.b) g1 (by assumption) hi3.1;have hz2:=hz;dsimp only[AL]at hz2 ⊢;rw[e]at hz2;exact hz2) hK1) (fun _=>rfl))) rfl
 exact au (show p.b=p.b++((p.os.drop p.i.toNat).map fH).flatten∧p.b.length≤65536∧p.b≠[] from(by exact⟨by rw[BC (by omega)];simp,g5,g6⟩)) (aG hK0 (⟨p.b⟩:Dt))
theorem VZ:dI Tryz.prog 28 0 vN true 0 EO:=by
 exact eM (lf:=600) bm (cK tu) (by rfl) nf kN yQ (fun b j x h=>by cases h) (fun S M nx K h=>by obtain⟨p,h⟩:=bL h;exact⟨p,(aa h).1,(aa h).2⟩) (fun p K h=>Ve p K (aa h).1 (aa h).2)
structure cu where
 s:bN
structure eS where
 t:List UInt8
def fQ (p:cu):Prop:=¬cB p.s
def fb (p:cu):Prop:=cB p.s∧65536<(cA p.s).length
def eZ (p:cu) (r:eS):Prop:=cB p.s∧r.t=cA p.s∧r.t.length≤65536
noncomputable def fm (p:cu):IE:=([.agg [.sy (.imm p.s.hg 3 aw p.s.gs aD),.sy (.int 0 p.s.clients),.sy (.int 0 p.s.window),.sy (.int 0 p.s.deadline),.sy (.int 0 p.s.pace),.sy (.int 0 p.s.again),.sy (.int 0 p.s.bag),.sy (.int 4 p.s.first),.sy (.imm p.s.ho 9 ax p.s.os aI)]],.leaf,0)
noncomputable def FB (p:cu) (K:KE):Bool:=ac (iP (fQ p) (K (.tup [.str [],.int 0 (.ofNat 1)]) .leaf 0) true) (ac (iP (fb p) (K (.tup [.str [],.int 0 (.ofNat 5)]) .leaf 0) true) (am fun r:eS=>iP (eZ p r) (K (.tup [.sy (.str r.t),.int 0 (.ofNat 0)]) .leaf 0) true))
def bZ (p:cu):Prop:=gT p.s.os∧p.s.gs.length≤10∧lU p.s
theorem RM (p:cu) (K:KE) (hpre:bZ p) (hK:FB p K=true):(bW 0 (fC vH) vN 600 Jt (fm p).1 (fm p).2.1 (fm p).2.2 K)=true:=by
 refine Eq.trans (b:=(aM (([.agg [.sy (.imm p.s.hg 3 aw p.s.gs aD),.sy (.int 0 p.s.clients),.sy (.int 0 p.s.window),.sy (.int 0 p.s.deadline),.sy (.int 0 p.s.pace),.sy (.int 0 p.s.again),.sy (.int 0 p.s.bag),.sy (.int 4 p.s.first),.sy (.imm p.s.ho 9 ax p.s.os aI)]],.leaf,0)) cG aZ bc fun p1 r1=>iP (¬r1.q) (K (.tup [.str [],.int 0 (.ofNat 1)]) .leaf 0) (aM (([.agg [.sy (.imm p.s.hg 3 aw p.s.gs aD),.sy (.int 0 p.s.clients),.sy (.int 0 p.s.window),.sy (.int 0 p.s.deadline),.sy (.int 0 p.s.pace),.sy (.int 0 p.s.again),.sy (.int 0 p.s.bag),.sy (.int 4 p.s.first)]],.leaf,0)) yI qn tR fun p2 r2=>mP (([]:List UInt8).length+r2.s.length≤140737488355328) (aF fun p3:iX=>mP (((.cons 17 (.sy (.int 0 0)) (.cons 16 (.sy (.int 0 (p.s.os.length:Int))) (.cons 15 (.sy (.imm p.s.ho 9 ax p.s.os aI)) (.cons 4 (.ptr 0 0) .nil)))),(.node (.node .leaf (some (.prow 5 1 UInt8 (([]:List UInt8)++r2.s) bw)) .leaf) (some (.blk false 91 2 [[.ptr 0 0,.sy (.prow 1 ((([]:List UInt8)++r2.s).length))]])) .leaf),2)=nf p3) (mP (lD p3) (ac (am fun r3:Dt=>iP (LW p3 r3) (aF fun b1:List UInt8=>mP (r3.c.map bw=b1.map bw) (mP (r3.c.length=b1.length) (mP (b1≠[]) (K (.tup [.sy (.str b1),.int 0 (.ofNat 0)]) .leaf 0)))) true) (iP (AL p3) (K (.tup [.str [],.int 0 (.ofNat 5)]) .leaf 0) true))))))) (by kernel_rfl) ?_
 obtain⟨hK0,hKr0⟩:=ai hK
 obtain⟨hK1,hKr1⟩:=ai hKr0
 have hK2:=hKr1
 dsimp only[bZ]at hpre
 obtain⟨u1,u2,u3⟩:=hpre
 refine ay (⟨p.s⟩:cv) rfl (by(try dsimp only[aZ]);first|exact⟨u1,u2,u3⟩|exact⟨u1,u2⟩) fun r1 hi1=> ?_
 dsimp only[bc]at hi1
 refine iI (fun hc2=> ?_) (fun hc2=> ?_)
 exact au (show¬cB p.s from(by have e:=(by assumption:_↔cB _);first|(intro h;have e2:=e.2 h;contradiction)|simp_all)) hK0
 refine ay (⟨p.s.hg,p.s.gs,p.s.clients,p.s.window,p.s.deadline,p.s.pace,p.s.again,p.s.bag,p.s.first⟩:rE) rfl (by(try dsimp only[qn]);exact Tx ((by assumption:_↔cB _).1 (by first|assumption|exact Classical.not_not.1 (by assumption))) u3) fun r2 hi3=> ?_
 dsimp only[tR]at hi3
 refine iQ ?_
 refine dx (⟨p.s.ho,p.s.os,([]:List UInt8)++r2.s,(0:Int)⟩:iX) rfl (by(try dsimp only[lD]);have hs:=((by assumption:_↔cB _).1 (by first|assumption|exact Classical.not_not.1 (by assumption)));exact⟨u1,by omega,by omega,aah hs,ZT u3,(by(try simp only[acA,acC,acB,acD]);omega),(by have e2:=hi3.1;simp only[acK];rw[e2];exact fun e=>Wt _ _ _ _ _ _ _ _ e.symm)⟩) ?_
 refine aE ?_ ?_
 refine az (fun r3=> ?_)
 refine iI (p:=r3.c=(([]:List UInt8)++r2.s)++((p.s.os.drop (0:Int).toNat).map fH).flatten∧r3.c.length≤65536∧r3.c≠[]) (fun hi4=> ?_) (fun _=>rfl)
 refine aK r3.c ?_
 refine aL (aL (mI (by(try dsimp only);exact hi4.2.2) ?_))
 exact au (show cB p.s∧r3.c=cA p.s∧r3.c.length≤65536 from(by exact⟨((by assumption:_↔cB _).1 (by first|assumption|exact Classical.not_not.1 (by assumption))),(by have hh:=(by assumption:_=pC _ _ _ _ _ _ _ _∧_);have e:=hi4.1;simp only[Int.toNat_zero,List.drop_zero,acK]at e;exact⟨by unfold cA;rw[←hh.1];exact e,hi4.2.1⟩)⟩)) (aG hK2 (⟨r3.c⟩:eS))
 refine iI (p:=65536<((([]:List UInt8)++r2.s)++((p.s.os.drop (0:Int).toNat).map fH).flatten).length) (fun hi5=> ?_) (fun _=>rfl)
 exact au (show cB p.s∧65536<(cA p.s).length from(by exact⟨((by assumption:_↔cB _).1 (by first|assumption|exact Classical.not_not.1 (by assumption))),(by have hh:=(by assumption:_=pC _ _ _ _ _ _ _ _∧_);have e:=hi5;simp only[Int.toNat_zero,List.drop_zero,acK]at e;unfold cA;rw[←hh.1];exact e)⟩)) hK1
noncomputable def FM:=bt vH 0 (bJ fm (dr bZ FB)) 11 [(0,15)]
theorem Iu:aV Tryz.prog FM:=aR (bU (f:=11) (k:=0) (lp:=vN) (lf:=600) bm (cK tu) Lh (by rfl) (fun b j x h=>(cy VZ (fun h=>(by cases h)) h)) fun p K h=>RM p K (aa h).1 (aa h).2) tu
end Go.Proofs.Tryz
namespace Go.Proofs.Tryz
open Go Go.RowKit Go.Sy Go.Txt
theorem IQ (o:ax):fH o=Lib.join (qC o) [32]++[10]:=by unfold fH qC;rw[Lib.join_cons]
theorem FY (g:aw):fW g=Lib.join (lA g) [32]++[10]:=by
 unfold fW lA Bm uf um HS
 rw[Lib.join_cons]
 split<;>simp[Lib.joinTail]
def sT (i z:Int):List UInt8:=Lib.join [pz i,Lib.itoa z] [32]++[10]
def Ox (c:CfR) (i:Int):Int:=if i=0 then c.clients else if i=1 then c.window else if i=2 then c.deadline else if i=3 then c.pace else if i=4 then c.again else if i=5 then c.bag else c.first
def rP (c:CfR):Nat→List UInt8
 |0=>[]
 |n+1=>rP c n++sT n (Ox c n)
def Qk (k:OpK):ax:=⟨k.1.1,k.1.2.1,k.1.2.2.1,k.1.2.2.2.1,k.1.2.2.2.2.1,k.1.2.2.2.2.2,k.2.1,k.2.2.1,.bool true,k.2.2.2⟩
noncomputable def sW (a:St):List UInt8:=(a.gs.map fW).flatten++rP a.cf a.set.toNat++(a.os.map fun k=>fH (Qk k)).flatten
def UP (c:CfR):Prop:=((0≤c.clients∧c.clients≤1099511627776)∧(0≤c.window∧c.window≤1099511627776)∧(0≤c.deadline∧c.deadline≤1099511627776)∧(0≤c.pace∧c.pace≤1099511627776)∧(0≤c.again∧c.again≤1099511627776)∧(0≤c.bag∧c.bag≤1099511627776))∧0≤c.first∧c.first≤18446744073709551615
def MV (a:St):Prop:=((∀g∈a.gs,iK g)∧a.gs.length≤4)∧(0≤a.set∧a.set≤7)∧(0<a.set→a.gs≠[])∧UP a.cf∧(∀k∈a.os,∃o,cQ o∧be o=k)∧(a.set<7→a.os=[])
theorem aa7:MV eF:=by
 simp[MV,eF,UP,UQ]
theorem Hs {w:List UInt8} {ws:TX} (h:wds 32 w=ws):w=Lib.join ws [32]:=by rw[←h];exact(Bh w).symm
theorem Sg {a b:St} {w:List UInt8} (hi:MV a) (h:step a w b):MV b∧sW b=sW a++w++[10]:=by
 obtain⟨⟨i1,i2⟩,i3,i4,i5,i6,i7⟩:=hi
 rcases h with⟨h0,hl,g,hg,hw,rfl⟩|⟨h0,hn,z,hz,hw,rfl⟩|⟨h0,o,ho,hw,rfl⟩
 ·have eo:=i7 (by omega)
  refine⟨⟨⟨fun x hx=> ?_,by simp only[acA,List.length_singleton];omega⟩,i3,fun q=>by simp,i5,i6,i7⟩,?_⟩
  ·rcases List.mem_append.1 hx with hx|hx
   ·exact i1 x hx
   ·rw[List.mem_singleton.1 hx];exact hg
  ·simp only[sW,eo,h0,List.map_nil,List.flatten_nil,List.append_nil,List.map_append,List.flatten_append,acH,acG,Int.toNat_zero,rP]
   rw[FY,Hs hw,acJ]
 ·have eo:=i7 (by omega)
  have hr:a.set=0∨a.set=1∨a.set=2∨a.set=3∨a.set=4∨a.set=5∨a.set=6:=by omega
  refine⟨⟨⟨i1,i2⟩,⟨by simp only;omega,by simp only;omega⟩,fun _=>hn,?_,i6,fun _=>eo⟩,?_⟩
  ·unfold UP at i5 ⊢
   rcases hr with e|e|e|e|e|e|e<;>rw[e]at hz ⊢ <;>simp only[sn,mD,reduceIte,Int.reduceEq]at hz ⊢ <;>omega
  ·have e1:w++[10]=sT a.set z:=by rw[Hs hw];rfl
   rw[acJ,e1]
   simp only[sW,eo,List.map_nil,List.flatten_nil,List.append_nil]
   rw[acJ]
   congr 1
   rcases hr with e|e|e|e|e|e|e<;>rw[e]<;>simp[rP,mD,Ox]
 ·refine⟨⟨⟨i1,i2⟩,i3,i4,i5,fun k hk=> ?_,fun q=>by simp only at q;omega⟩,?_⟩
  ·rcases List.mem_append.1 hk with hk|hk
   ·exact i6 k hk
   ·rw[List.mem_singleton.1 hk];exact⟨o,ho,rfl⟩
  ·simp only[sW,List.map_append,List.flatten_append,acH,List.map_nil,acG,List.flatten_nil,List.append_nil]
   have e:fH (Qk (be o))=w++[10]:=by rw[Hs hw];exact IQ o
   rw[e];simp only[acJ]
theorem LP {a:St} {k:Int} {t:List UInt8} {o:yC} {n:Int} (h:dt a k t o n):1≤k→MV a→(n=0→∃b,MV b∧b.set=7∧o=(b.gs,b.cf,b.os)∧sW b=sW a++t)∧0≤n:=by
 induction h with
 |whole a k hs=>exact fun _ hi=>⟨fun _=>⟨a,hi,hs,rfl,by simp⟩,by omega⟩
 |short a k hs=>exact fun hk hi=>⟨fun q=>by omega,by omega⟩
 |open_ a k t h1 h2=>exact fun hk hi=>⟨fun q=>by omega,by omega⟩
 |bad a k w r h1 h2=>exact fun hk hi=>⟨fun q=>by omega,by omega⟩
 |good a b k w r o n h1 h2 h3 ih=>
  intro hk hi
  obtain⟨e1,e2⟩:=Sg hi h2
  obtain⟨e3,e4⟩:=ih (by omega) e1
  refine⟨fun q=> ?_,e4⟩
  obtain⟨c,c1,c2,c3,c4⟩:=e3 q
  exact⟨c,c1,c2,c3,by rw[c4,e2];simp⟩
theorem PU {t:List UInt8} {m:Int} (h:dt eF 1 t jO m):0<m:=by
 obtain⟨h1,h2⟩:=LP h (by decide) aa7
 rcases Int.lt_or_le 0 m with q|q
 ·exact q
 ·exfalso
  obtain⟨b,c1,c2,c3,_⟩:=h1 (by omega)
  have e:([]:List aw)=b.gs:=congrArg Prod.fst c3
  exact c1.2.2.1 (by omega) e.symm
theorem abK (i z:Int):sT i z=pz i++32::(Lib.itoa z++[10]):=by simp[sT,Lib.join_cons,Lib.joinTail]
theorem FX (gs:List aw) (c:CfR):pC gs c.clients c.window c.deadline c.pace c.again c.bag c.first=(gs.map fW).flatten++rP c 7:=by
 simp[pC,rP,abK,Ox,pz]
theorem PW {t:List UInt8} {hg ho:Value} {gs:List aw} {c:CfR} {os:List ax} (h:dt eF 1 t (gs,c,os.map be) 0):
  cB ⟨hg,gs,c.clients,c.window,c.deadline,c.pace,c.again,c.bag,c.first,ho,os⟩∧lU ⟨hg,gs,c.clients,c.window,c.deadline,c.pace,c.again,c.bag,c.first,ho,os⟩∧cA ⟨hg,gs,c.clients,c.window,c.deadline,c.pace,c.again,c.bag,c.first,ho,os⟩=t:=by
 obtain⟨b,⟨⟨i1,i2⟩,i3,i4,i5,i6,i7⟩,hs,e,ht⟩:=(LP h (by decide) aa7).1 rfl
 simp only[ac9]at e
 obtain⟨rfl,rfl,e⟩:=e
 have hne:=i4 (by omega)
 have hl:1≤b.gs.length:=by
  rcases hq:b.gs with _|⟨x,r⟩
  ·exact absurd hq hne
  ·simp
 have hop:∀o∈os,cQ o:=fun o hm=>by
  obtain⟨q,hq,eq⟩:=i6 (be o) (by rw[←e];exact List.mem_map_of_mem hm)
  have h1:cQ (Qk (be q)):=hq
  rw[eq]at h1
  exact h1
 unfold UP at i5
 refine⟨⟨⟨hl,i2⟩,i1,i5.1.1,i5.1.2.1,i5.1.2.2.1,i5.1.2.2.2.1,i5.1.2.2.2.2.1,i5.1.2.2.2.2.2,fun o hm=>(hop o hm).1⟩,⟨fun g hm=> ?_,?_,i5.2,fun o hm=>(hop o hm).2⟩,?_⟩
 ·have:=i1 g hm
  unfold iK at this
  unfold HC gV;omega
 ·simp only[gV];omega
 ·have e0:sW eF=[]:=by simp[sW,eF,rP]
  rw[e0,acK]at ht
  rw[←ht]
  simp only[cA,sW,hs,FX,←e,List.map_map]
  rfl
theorem FI {b c:UInt8} {ws:TX} (hb:¬b=c) (h:∀x∈ws,b∉x):b∉Lib.join ws [c]:=by
 cases ws with
 |nil=>simp[Lib.join,List.intercalate]
 |cons x r=>
  rw[Lib.join_cons,Lib.joinTail]
  intro hm
  rcases List.mem_append.1 hm with hm|hm
  ·exact h x List.mem_cons_self hm
  ·obtain⟨l,hl,hm⟩:=List.mem_flatten.1 hm
   obtain⟨y,hy,rfl⟩:=List.mem_map.1 hl
   rcases List.mem_append.1 hm with hm|hm
   ·exact hb (List.mem_singleton.1 hm)
   ·exact h y (List.mem_cons_of_mem _ hy) hm
theorem Qs (i:Int) {b:UInt8} (hb:b=32∨b=10):b∉pz i:=by
 unfold pz
 repeat' split
 all_goals(rcases hb with rfl|rfl<;>decide)
theorem Pk (i:Int) {b:UInt8} (hb:b=32∨b=10):b∉aW i:=by
 unfold aW
 repeat' split
 all_goals(rcases hb with rfl|rfl<;>decide)
theorem NI {b:UInt8} (hb:b=32∨b=10):b=32∨b=58∨b=10:=hb.elim .inl fun q=>.inr (.inr q)
theorem Je {g:aw} (hg:iK g) {b:UInt8} (hb:b=32∨b=10):∀x∈lA g,b∉x:=by
 intro x hx
 unfold iK at hg
 simp only[lA,List.mem_cons,List.not_mem_nil,or_false]at hx
 rcases hx with rfl|rfl|rfl|rfl
 ·rcases hb with rfl|rfl<;>decide
 ·exact me hg.1.1 (NI hb)
 ·exact me hg.2.1 (NI hb)
 ·unfold Bm
  split<;>(rcases hb with rfl|rfl<;>decide)
theorem NS {p:aB} (hp:gS p) {b:UInt8} (hb:b=32∨b=10):b∉bd p:=
 FI (by rcases hb with rfl|rfl<;>decide) (zZ hp (NI hb))
theorem FE {o:ax} (ho:cQ o) {b:UInt8} (hb:b=32∨b=10):∀x∈qC o,b∉x:=by
 intro x hx
 have hp:=Ee ho.1
 have hm:=ho.2.2.1.1
 have hi:∀z:Int,0≤z→b∉Lib.itoa z:=fun z hz=>me hz (NI hb)
 simp only[qC,List.mem_cons,List.mem_append]at hx
 rcases hx with rfl|hx|hx
 ·exact Pk _ hb
 ·unfold aN at hx
  obtain⟨p1,p2,p3,p4,p5⟩:=hp
  repeat' split at hx
  all_goals
   simp only[List.mem_cons,List.not_mem_nil,or_false]at hx
   first
    |rcases hx with rfl|rfl|rfl<;>exact hi _ (by assumption)
    |rcases hx with rfl|rfl<;>exact hi _ (by assumption)
    |rw[hx];exact hi _ (by assumption)
 ·obtain⟨p,hp,rfl⟩:=List.mem_map.1 hx
  exact NS (qB ho p hp) hb
theorem AG {a b:St} {k:Int} {ws:TX} {r:List UInt8} {o:yC} (hn:ws≠[]) (h10:∀x∈ws,(10:UInt8)∉x) (h32:∀x∈ws,(32:UInt8)∉x) (hs:∀w,wds 32 w=ws→step a w b) (h:∀k,dt b k r o 0):dt a k (Lib.join ws [32]++[10]++r) o 0:=by
 rw[acJ]
 exact .good _ _ _ _ _ _ _ (FI (by decide) h10) (hs _ (Hr hn h32)) (h _)
theorem LN:∀(os:List ax) (a:St) (k:Int),(∀o∈os,cQ o)→a.set=7→dt a k (os.map fH).flatten (a.gs,a.cf,a.os++os.map be) 0
 |[],a,k,_,hs=>by
  simp only[List.map_nil,List.flatten_nil,List.append_nil]
  exact .whole a k hs
 |o::r,a,k,ho,hs=>by
  have h1:=ho o List.mem_cons_self
  simp only[acH,acG]
  rw[IQ]
  have e:a.os++be o::r.map be=(a.os++[be o])++r.map be:=by simp
  rw[e]
  refine AG (b:={a with os:=a.os++[be o]}) (by simp[qC]) (FE h1 (.inr rfl)) (FE h1 (.inl rfl)) (fun w hw=>.inr (.inr ⟨hs,o,h1,hw,rfl⟩)) fun k=> ?_
  exact LN r {a with os:=a.os++[be o]} k (fun x hx=>ho x (List.mem_cons_of_mem _ hx)) hs
theorem nt {gs:List aw} {cf:CfR} {i k z:Int} {r:List UInt8} {o:yC} (h0:0≤i∧i≤6) (hn:gs≠[]) (hz:0≤z∧z≤sn i) (h:∀k,dt ⟨gs,mD cf i z,[],i+1⟩ k r o 0):dt ⟨gs,cf,[],i⟩ k (sT i z++r) o 0:=by
 refine AG (b:=⟨gs,mD cf i z,[],i+1⟩) (by simp) (fun x hx=> ?_) (fun x hx=> ?_) (fun w hw=>.inr (.inl ⟨h0,hn,z,hz,hw,rfl⟩)) h
 all_goals
  simp only[List.mem_cons,List.not_mem_nil,or_false]at hx
  rcases hx with rfl|rfl
  ·exact Qs _ (by first|exact .inr rfl|exact .inl rfl)
  ·exact me hz.1 (by first|exact .inr (.inr rfl)|exact .inl rfl)
theorem HE:∀(gs:List aw) (a:St) (k:Int) (r:List UInt8) (o:yC),(∀g∈gs,iK g)→a.set=0→a.gs.length+gs.length≤4→(∀k,dt {a with gs:=a.gs++gs} k r o 0)→dt a k ((gs.map fW).flatten++r) o 0
 |[],a,k,r,o,_,_,_,h=>by
  have:=h k
  simpa using this
 |g::l,a,k,r,o,hg,hs,hl,h=>by
  have h1:=hg g List.mem_cons_self
  simp only[acB]at hl
  simp only[acH,acG]
  rw[FY,acJ]
  refine AG (b:={a with gs:=a.gs++[g]}) (by simp[lA]) (Je h1 (.inr rfl)) (Je h1 (.inl rfl)) (fun w hw=>.inl ⟨hs,by omega,g,h1,hw,rfl⟩) fun k=> ?_
  refine HE l {a with gs:=a.gs++[g]} k r o (fun x hx=>hg x (List.mem_cons_of_mem _ hx)) hs (by simp only[acA,List.length_singleton];omega) fun k=> ?_
  have:=h k
  simpa using this
theorem HD {s:bN} (h:cB s) (h2:lU s) (k:Int):dt eF k (cA s) (s.gs,⟨s.clients,s.window,s.deadline,s.pace,s.again,s.bag,s.first⟩,s.os.map be) 0:=by
 obtain⟨⟨g1,g2⟩,g3,c1,c2,c3,c4,c5,c6,ho⟩:=h
 obtain⟨_,_,hf,hr⟩:=h2
 have hne:s.gs≠[]:=fun q=>by rw[q]at g1;simp at g1
 have e:cA s=(s.gs.map fW).flatten++(sT 0 s.clients++(sT 1 s.window++(sT 2 s.deadline++(sT 3 s.pace++(sT 4 s.again++(sT 5 s.bag++(sT 6 s.first++(s.os.map fH).flatten))))))):=by
  unfold cA
  rw[FX s.gs ⟨s.clients,s.window,s.deadline,s.pace,s.again,s.bag,s.first⟩]
  simp[rP,Ox]
 rw[e]
 refine HE s.gs eF k _ _ g3 rfl (by simp[eF];omega) fun k=> ?_
 show dt ⟨s.gs,UQ,[],0⟩ _ _ _ _
 refine nt (i:=0) (by decide) hne c1 fun k=> ?_
 refine nt (i:=1) (by decide) hne c2 fun k=> ?_
 refine nt (i:=2) (by decide) hne c3 fun k=> ?_
 refine nt (i:=3) (by decide) hne c4 fun k=> ?_
 refine nt (i:=4) (by decide) hne c5 fun k=> ?_
 refine nt (i:=5) (by decide) hne c6 fun k=> ?_
 refine nt (i:=6) (by decide) hne hf fun k=> ?_
 exact LN s.os ⟨s.gs,⟨s.clients,s.window,s.deadline,s.pace,s.again,s.bag,s.first⟩,[],7⟩ k (fun o hm=>⟨ho o hm,hr o hm⟩) rfl
end Go.Proofs.Tryz
namespace Go.Proofs.Tryz
open Go.Proofs.YtacomabmhnodlaaGreatDoor (zf nD wL lT qX nE pt Es IC yS li uo cW cX dQ)
open Go Go.RowKit Go.Sy
open Go.Eng hiding am
set_option maxRecDepth 1000000
set_option linter.unusedVariables false
set_option maxHeartbeats 4000000
open Go.Txt (wds cE)
theorem WS {R:ax→Prop} (hR:∀o,R (Qk (be o))↔R o) {l m:List ax} (e:l.map be=m.map be):(∀o∈l,R o)↔∀o∈m,R o:=by
 have h:∀l:List ax,(∀o∈l,R o)↔∀k∈l.map be,R (Qk k):=fun l=>by
  rw[List.forall_mem_map]
  exact⟨fun q o ho=>(hR o).2 (q o ho),fun q o ho=>(hR o).1 (q o ho)⟩
 rw[h l,h m,e]
theorem DR {t a:bN} (e:dX t=dX a):lU t↔lU a:=by
 obtain⟨hg,gs,c1,c2,c3,c4,c5,c6,f,ho,os⟩:=t
 obtain⟨hg',gs',d1,d2,d3,d4,d5,d6,f',ho',os'⟩:=a
 simp only[dX,ac9]at e
 obtain⟨rfl,⟨rfl,rfl,rfl,rfl,rfl,rfl⟩,rfl,e⟩:=e
 simp only[lU]
 rw[WS (fun _=>Iff.rfl) e]
theorem bx {t a:bN} {q:Prop} (e:dX t=dX a) (h:q→gT a.os) (hq:q) (h2:a.gs.length≤10) (h3:lU a):gT t.os∧t.gs.length≤10∧lU t:=⟨Md e h hq,QR e h2,(DR e).2 h3⟩
theorem gH {z:Int} (h:(Lit.int .i64 z).wf=true):gV z:=by
 simp[Lit.wf,IntKind.min,IntKind.max,IntKind.signed,IntKind.bits]at h
 unfold gV
 omega
theorem MZ {z:Int} (h:(Lit.int .u8 z).wf=true):0≤z∧z≤255:=by
 simp[Lit.wf,IntKind.min,IntKind.max,IntKind.signed,IntKind.bits]at h
 omega
theorem WY {z:Int} (h:(Lit.int .u32 z).wf=true):0≤z∧z≤4294967295:=by
 simp[Lit.wf,IntKind.min,IntKind.max,IntKind.signed,IntKind.bits]at h
 omega
theorem WX {z:Int} (h:(Lit.int .u64 z).wf=true):0≤z∧z≤18446744073709551615:=by
 simp[Lit.wf,IntKind.min,IntKind.max,IntKind.signed,IntKind.bits]at h
 omega
theorem ZV {z0 z1 z4:Int} {k v:List UInt8} (h0:(Lit.int .u8 z0).wf=true) (h1:(Lit.int .u8 z1).wf=true) (h4:(Lit.int .i64 z4).wf=true):lV ⟨z0,z1,k,v,z4⟩:=⟨MZ h0,MZ h1,gH h4⟩
theorem ZX {z0 z1:Int} {c:Prop} (h0:(Lit.int .i64 z0).wf=true) (h1:(Lit.int .i64 z1).wf=true):HC ⟨z0,z1,c⟩:=⟨gH h0,gH h1⟩
theorem ZW {z0 z1 z2 z3 z4 z5 z6 z7:Int} {h:Value} {l:List aB} (h0:(Lit.int .i64 z0).wf=true) (h1:(Lit.int .i64 z1).wf=true) (h2:(Lit.int .i64 z2).wf=true) (h3:(Lit.int .i64 z3).wf=true) (h4:(Lit.int .i64 z4).wf=true) (h5:(Lit.int .i64 z5).wf=true) (h6:(Lit.int .u32 z6).wf=true) (h7:(Lit.int .u8 z7).wf=true) (h8:∀x∈l,lV x):pd ⟨z0,z1,z2,z3,z4,z5,z6,z7,h,l⟩:=⟨⟨gH h0,gH h1,gH h2,gH h3,gH h4,gH h5⟩,WY h6,MZ h7,h8⟩
theorem ZU {z1 z2 z3 z4 z5 z6 z7:Int} {h h':Value} {g:List aw} {l:List ax} (h1:(Lit.int .i64 z1).wf=true) (h2:(Lit.int .i64 z2).wf=true) (h3:(Lit.int .i64 z3).wf=true) (h4:(Lit.int .i64 z4).wf=true) (h5:(Lit.int .i64 z5).wf=true) (h6:(Lit.int .i64 z6).wf=true) (h7:(Lit.int .u64 z7).wf=true) (hg:∀x∈g,HC x) (ho:∀x∈l,pd x):lU ⟨h,g,z1,z2,z3,z4,z5,z6,z7,h',l⟩:=⟨hg,⟨gH h1,gH h2,gH h3,gH h4,gH h5,gH h6⟩,WX h7,ho⟩
noncomputable def nlB (us:List AV):Bool:=match eC us 1 with
 |some (.agg (.nilS::_))=>true
 |_=>false
theorem eW {rd:ah} {t:List UInt8} {c d:Prop} {h1 h2:Value} (h:d∧c∧dt eF 1 t (li rd) 0):cB ⟨h1,rd.gs,rd.clients,rd.window,rd.deadline,rd.pace,rd.again,rd.bag,rd.first,h2,rd.os⟩∧lU ⟨h1,rd.gs,rd.clients,rd.window,rd.deadline,rd.pace,rd.again,rd.bag,rd.first,h2,rd.os⟩∧cA ⟨h1,rd.gs,rd.clients,rd.window,rd.deadline,rd.pace,rd.again,rd.bag,rd.first,h2,rd.os⟩=t:=
 PW (c:=⟨rd.clients,rd.window,rd.deadline,rd.pace,rd.again,rd.bag,rd.first⟩) h.2.2
theorem e1_ {x:bN} {q:Prop} (h1:¬cB x) (h2:q↔cB x) (hq:q):False:=h1 (h2.1 hq)
theorem e2_ {x:bN} {q X:Prop} (h1:cB x∧X) (h2:q↔cB x) (hq:¬q):False:=hq (h2.2 h1.1)
theorem e3_ {x a:bN} {r:List UInt8} {rd:ah} {q X c d:Prop} {h1 h2:Value} (e:dX x=dX a) (ha:lU a) (h:cB x∧r=cA x∧X) (k:d∧c∧dt eF 1 r (li rd) 0) (hq:q↔dX x=dX ⟨h1,rd.gs,rd.clients,rd.window,rd.deadline,rd.pace,rd.again,rd.bag,rd.first,h2,rd.os⟩) (n:¬q):False:=by
 have e1:=(LO (HD h.1 ((DR e).2 ha) 1) (by rw[←h.2.1];exact k.2.2)).1
 refine n (hq.2 ?_)
 have e1:((x.gs,⟨x.clients,x.window,x.deadline,x.pace,x.again,x.bag,x.first⟩,x.os.map be):yC)=(rd.gs,⟨rd.clients,rd.window,rd.deadline,rd.pace,rd.again,rd.bag,rd.first⟩,rd.os.map be):=e1
 simp only[ac9,CfR.mk.injEq]at e1
 obtain⟨a1,⟨a2,a3,a4,a5,a6,a7,a8⟩,a9⟩:=e1
 simp only[dX,a1,a2,a3,a4,a5,a6,a7,a8,a9]
theorem e4_ {x a:bN} {r:List UInt8} {X:Prop} {m:Int} (e:dX x=dX a) (ha:lU a) (h:cB x∧r=cA x∧X) (k:dt eF 1 r jO m):False:=by
 have e1:=(LO (HD h.1 ((DR e).2 ha) 1) (by rw[←h.2.1];exact k)).2
 have:=PU k
 omega
theorem e5_ {rd:ah} {t:List UInt8} {c d:Prop} {h1 h2:Value} (n:¬cB ⟨h1,rd.gs,rd.clients,rd.window,rd.deadline,rd.pace,rd.again,rd.bag,rd.first,h2,rd.os⟩) (h:d∧c∧dt eF 1 t (li rd) 0):False:=n (eW h).1
theorem e6_ {rd:ah} {t:List UInt8} {c d:Prop} {h1 h2:Value} (k:cB ⟨h1,rd.gs,rd.clients,rd.window,rd.deadline,rd.pace,rd.again,rd.bag,rd.first,h2,rd.os⟩∧65536<(cA ⟨h1,rd.gs,rd.clients,rd.window,rd.deadline,rd.pace,rd.again,rd.bag,rd.first,h2,rd.os⟩).length) (h:d∧c∧dt eF 1 t (li rd) 0) (l:¬(4000:Int)<(t.length:Int)):False:=by
 have e:=(eW (h1:=h1) (h2:=h2) h).2.2
 rw[e]at k
 omega
theorem e7_ {rd:ah} {t b:List UInt8} {c d X:Prop} {h1 h2:Value} (k:cB ⟨h1,rd.gs,rd.clients,rd.window,rd.deadline,rd.pace,rd.again,rd.bag,rd.first,h2,rd.os⟩∧b=cA ⟨h1,rd.gs,rd.clients,rd.window,rd.deadline,rd.pace,rd.again,rd.bag,rd.first,h2,rd.os⟩∧X) (h:d∧c∧dt eF 1 t (li rd) 0) (n:¬b=t):False:=n (k.2.1.trans (eW h).2.2)
theorem e8_ {rd:ah} {t:List UInt8} {c d q:Prop} {h1 h2:Value} (n:¬q) (k:q↔cB ⟨h1,rd.gs,rd.clients,rd.window,rd.deadline,rd.pace,rd.again,rd.bag,rd.first,h2,rd.os⟩) (h:d∧c∧dt eF 1 t (li rd) 0):False:=n (k.2 (eW h).1)
theorem q_ {rd:ah} {t:List UInt8} {c d q:Prop} {h1 h2:Value} (k:q↔cB ⟨h1,rd.gs,rd.clients,rd.window,rd.deadline,rd.pace,rd.again,rd.bag,rd.first,h2,rd.os⟩) (h:d∧c∧dt eF 1 t (li rd) 0):q:=k.2 (eW h).1
theorem yh {t:List UInt8} {m:Int} (h:dt eF 1 t jO m) (n:m≤0):False:=by have:=PU h;omega
theorem jS {h1 h2:Value}:lU ⟨h1,[],0,0,0,0,0,0,0,h2,[]⟩:=by simp[lU,gV]
theorem dD (h:False:=by first|omega|exact e1_ (by assumption) (by assumption) (by assumption)|exact e2_ (by assumption) (by assumption) (by assumption)|exact e3_ (a:=p.a) (by assumption) hpre (by assumption) (by assumption) (by assumption) (by assumption)|exact e4_ (a:=p.a) (by assumption) hpre (by assumption) (by assumption)|exact e5_ (by assumption) (by assumption)|exact e6_ (by assumption) (by assumption) (by assumption)|exact e7_ (by assumption) (by assumption) (by assumption)|exact e8_ (by assumption) (by assumption) (by assumption)|exact yh (by assumption) (by omega)):False:=h
noncomputable def tm:=bt FM 0 yS 6 []
theorem tY:aV Tryz.prog tm:=aR IC Iu
def Jj:XF:=.mk 17 (.one 4) (.seq (g_ 3 [e_ 0 2 (.box 29 (.t 0)),e_ 1 3 (.box 29 (.t 1)),p_ 2 4 (.mv (.c (.bool false)))]) (.seq (g_ 13 [p_ 0 5 (f_ 0 2),r_ 1 6 (.ld true 8 (.t 5)),p_ 2 7 (f_ 0 3),r_ 3 8 (.ld true 8 (.t 7)),c_ 4 9 41 [.t 6,.t 8],p_ 5 10 (m_ 9),aj 6 11 10 true (f_ 8 2),aT 7 12 10 true (l_ 11),aj 8 13 10 true (f_ 8 3),aT 9 14 10 true (l_ 13),fX 10 15 10 true 42 [.t 12,.t 14,.f 43],p_ 11 16 (.pick (.t 10) (.t 15) (.c (.bool false))),p_ 12 4 (m_ 16)]) .ret))
theorem Lc:bE Tryz.prog 14 Jj=true:=by kernel_rfl
abbrev gA:=Unit
noncomputable def fL (p:gA):IE:=([.agg [.nilS,.int 0 (.ofNat 0),.int 0 (.ofNat 0),.int 0 (.ofNat 0),.int 0 (.ofNat 0),.int 0 (.ofNat 0),.int 0 (.ofNat 0),.int 4 (.ofNat 0),.nilS],.agg [.nilS,.int 0 (.ofNat 0),.int 0 (.ofNat 0),.int 0 (.ofNat 0),.int 0 (.ofNat 0),.int 0 (.ofNat 0),.int 0 (.ofNat 0),.int 4 (.ofNat 0),.nilS]],.leaf,0)
noncomputable def FA (p:gA) (K:KE):Bool:=K (.bool true) .leaf 0
theorem RI (p:gA) (K:KE) (hK:FA p K=true):(bW 0 (fC tm) cL 600 Jj (fL p).1 (fL p).2.1 (fL p).2.2 K)=true:=by
 refine Eq.trans (b:=(K (.bool true) .leaf 0)) (by kernel_rfl) ?_
 exact hK
noncomputable def JY:cq:=jR (fun us M=>nlB us) (bJ fL FA) (bJ kB (dr fZ mO))
theorem SX:bR Tryz.prog 14 0 JY:=eU (Tc (f:=14) (k:=0) (cK tY) Lc (by rfl) (by rfl) RI) FQ
noncomputable def FK:=bt tm 0 JY 14 [(0,15),(1,15)]
theorem Is:aV Tryz.prog FK:=aR SX tY
def wF:XF:=.mk 92 (.one 4) (.seq (g_ 2 [e_ 0 2 (.box 37 (.t 0)),p_ 1 4 (.mv (.c (.bool false)))]) (.seq (.seq (g_ 12 [r_ 0 14 (.ld true 9 (.t 2)),c_ 1 15 9 [.t 14],p_ 2 16 (.un 0 (.t 15)),p_ 3 17 (m_ 16),aj 4 18 17 false (m_ 1),aj 5 19 17 false (.len 0 (.t 18)),aj 6 20 17 false (.bin 3 2 (.t 19) (i_ 4000)),p_ 7 21 (.pick (.t 17) (.c (.bool true)) (.t 20)),p_ 8 22 (m_ 21),fX 9 23 22 false 5 [],aj 10 24 22 false (.un 0 (.t 23)),p_ 11 25 (.pick (.t 22) (.c (.bool true)) (.t 24))]) (.cond (.t 25) (.seq (g_ 2 [c_ 0 26 5 [],p_ 1 4 (m_ 26)]) .ret) .skip)) (.seq (g_ 4 [r_ 0 27 (.ld true 9 (.t 2)),c_ 1 28 10 [.t 27],e_ 2 5 (.al 29 [.nilS,.int 0 (.ofNat 0),.int 0 (.ofNat 0),.int 0 (.ofNat 0),.int 0 (.ofNat 0),.int 0 (.ofNat 0),.int 0 (.ofNat 0),.int 4 (.ofNat 0),.nilS]),bl 3 (.st 9 (.t 5) (.t 28))]) (.seq (g_ 7 [r_ 0 30 (.ld true 9 (.t 5)),c_ 1 31 11 [.t 30],p_ 2 29 (m_ 31),p_ 3 32 (.ext 0 (.t 29)),p_ 4 33 (.ext 1 (.t 29)),p_ 5 6 (m_ 32),p_ 6 7 (m_ 33)]) (.seq (.seq (h_ 11 [p_ 0 34 (m_ 7),r_ 3 37 (.ld true 9 (.t 5)),c_ 1 35 12 [.t 34],a_ 3 37 (.ld true 9 (.t 5)),p_ 2 36 (.bin 3 4 (.t 35) (i_ 0)),c_ 4 38 13 [.t 37],p_ 5 39 (.eqs true 1 .bool (.t 36) (.t 38)),p_ 6 40 (m_ 39),aj 7 41 40 true (m_ 7),fX 8 42 40 true 12 [.t 41],aj 9 43 40 true (.bin 3 5 (.t 42) (i_ 5)),p_ 10 44 (.pick (.t 40) (.t 43) (.c (.bool false)))]) (.cond (.t 44) (.seq (g_ 1 [p_ 0 4 (.mv (.c (.bool false)))]) .ret) .skip)) (.seq (.seq (g_ 3 [p_ 0 45 (m_ 7),c_ 1 46 12 [.t 45],p_ 2 47 (.bin 3 4 (.t 46) (i_ 0))]) (.cond (.t 47) (.seq (.aft (g_ 8 [p_ 0 49 (m_ 6),c_ 1 50 6 [.t 49],p_ 2 48 (m_ 50),p_ 3 51 (.ext 0 (.t 48)),p_ 4 52 (.ext 1 (.t 48)),e_ 5 8 (.al 29 [.nilS,.int 0 (.ofNat 0),.int 0 (.ofNat 0),.int 0 (.ofNat 0),.int 0 (.ofNat 0),.int 0 (.ofNat 0),.int 0 (.ofNat 0),.int 4 (.ofNat 0),.nilS]),bl 6 (.st 9 (.t 8) (.t 51)),p_ 7 9 (m_ 52)]) [(0,[.can 0 [8,1,5,9],.cell 0 0 0 82 3 aw aD,.frzc 0 0 0,.cell 0 0 8 54 9 ax aI,.frzc 0 0 8,.upc 0 0 1,.upc 0 0 2,.upc 0 0 3,.upc 0 0 4,.upc 0 0 5,.upc 0 0 6,.upc 0 0 7,.up 9])]) (.seq (g_ 8 [p_ 0 53 (m_ 9),p_ 1 54 (.bin 3 5 (.t 53) (i_ 0)),p_ 2 55 (m_ 54),aT 3 56 55 false (.ld true 9 (.t 5)),aT 4 57 55 false (.ld true 9 (.t 8)),fX 5 58 55 false 14 [.t 56,.t 57],aj 6 59 55 false (.un 0 (.t 58)),p_ 7 60 (.pick (.t 55) (.c (.bool true)) (.t 59))]) (.cond (.t 60) (.seq (g_ 1 [p_ 0 4 (.mv (.c (.bool false)))]) .ret) .skip))) .skip)) (.seq (g_ 8 [p_ 0 62 (m_ 1),c_ 1 63 6 [.t 62],p_ 2 61 (m_ 63),p_ 3 64 (.ext 0 (.t 61)),p_ 4 65 (.ext 1 (.t 61)),e_ 5 10 (.al 29 [.nilS,.int 0 (.ofNat 0),.int 0 (.ofNat 0),.int 0 (.ofNat 0),.int 0 (.ofNat 0),.int 0 (.ofNat 0),.int 0 (.ofNat 0),.int 4 (.ofNat 0),.nilS]),bl 6 (.st 9 (.t 10) (.t 64)),p_ 7 11 (m_ 65)]) (.seq (.seq (g_ 2 [p_ 0 66 (m_ 11),p_ 1 67 (.bin 3 5 (.t 66) (i_ 0))]) (.cond (.t 67) (.seq (g_ 8 [p_ 0 68 (m_ 11),p_ 1 69 (.bin 3 2 (.t 68) (i_ 0)),p_ 2 70 (m_ 69),aT 3 71 70 true (.ld true 9 (.t 10)),aj 4 72 70 true (.bld [.nilS,.int 0 (.ofNat 0),.int 0 (.ofNat 0),.int 0 (.ofNat 0),.int 0 (.ofNat 0),.int 0 (.ofNat 0),.int 0 (.ofNat 0),.int 4 (.ofNat 0),.nilS] [] []),fX 5 73 70 true 14 [.t 71,.t 72],p_ 6 74 (.pick (.t 70) (.t 73) (.c (.bool false))),p_ 7 4 (m_ 74)]) .ret) .skip)) (.seq (.pre [.can 0 [10,1,11],.cell 0 0 0 82 3 aw aD,.frzc 0 0 0,.cell 0 0 8 54 9 ax aI,.frzc 0 0 8,.upc 0 0 1,.upc 0 0 2,.upc 0 0 3,.upc 0 0 4,.upc 0 0 5,.upc 0 0 6,.upc 0 0 7,.up 11] (g_ 7 [r_ 0 76 (.ld true 9 (.t 10)),c_ 1 77 11 [.t 76],p_ 2 75 (m_ 77),p_ 3 78 (.ext 0 (.t 75)),p_ 4 79 (.ext 1 (.t 75)),p_ 5 12 (m_ 78),p_ 6 13 (m_ 79)])) (.seq (g_ 13 [p_ 0 80 (m_ 13),c_ 1 81 12 [.t 80],p_ 2 82 (.bin 3 4 (.t 81) (i_ 0)),p_ 3 83 (m_ 82),aj 4 84 83 true (m_ 12),aj 5 85 83 true (m_ 1),aj 6 86 83 true (.bin 5 0 (.t 84) (.t 85)),p_ 7 87 (.pick (.t 83) (.t 86) (.c (.bool false))),p_ 8 88 (m_ 87),aT 9 89 88 true (.ld true 9 (.t 10)),fX 10 90 88 true 13 [.t 89],p_ 11 91 (.pick (.t 88) (.t 90) (.c (.bool false))),p_ 12 4 (m_ 91)]) .ret))))))))))
theorem Bo:bE Tryz.prog 4 wF=true:=by kernel_rfl
structure kD where
 a:bN
 t:List UInt8
structure cV where
 q:Prop
def DY (p:kD) (r:cV):Prop:=r.q
noncomputable def na (p:kD):IE:=([.agg [.sy (.imm p.a.hg 3 aw p.a.gs aD),.sy (.int 0 p.a.clients),.sy (.int 0 p.a.window),.sy (.int 0 p.a.deadline),.sy (.int 0 p.a.pace),.sy (.int 0 p.a.again),.sy (.int 0 p.a.bag),.sy (.int 4 p.a.first),.sy (.imm p.a.ho 9 ax p.a.os aI)],.sy (.str p.t)],.leaf,0)
noncomputable def tT (p:kD) (K:KE):Bool:=ac (K (.bool true) .leaf 0) (am fun r:cV=>iP (DY p r) (K (.sy (.bool r.q)) .leaf 0) true)
def nv (p:kD):Prop:=lU p.a
theorem GD (p:kD) (K:KE) (hpre:nv p) (hK:tT p K=true):(bW 0 (fC FK) cL 600 wF (na p).1 (na p).2.1 (na p).2.2 K)=true:=by
 refine Eq.trans (b:=(let z0:Bool:=(K (.bool false) .leaf 0);let z1:Bool:=(K (.bool true) .leaf 0);aF fun p1:rC=>mP (([.sy (.imm p.a.ho 9 ax p.a.os aI),.int 0 (.ofNat 60)],.leaf,0)=yG p1) (am fun r1:Ds=>iP (pO p1 r1) (iP (r1.q) (iP (¬((p.a.gs.length:Int)≤(10:Int))) (aF fun p2:nV=>mP (([],.leaf,0)=mr p2) z1) (iP ((4000:Int)<(p.t.length:Int)) (aF fun p3:nV=>mP (([],.leaf,0)=mr p3) z1) (aF fun p4:nV=>mP (([],.leaf,0)=mr p4) (aM (([.agg [.sy (.imm p.a.hg 3 aw p.a.gs aD),.sy (.int 0 p.a.clients),.sy (.int 0 p.a.window),.sy (.int 0 p.a.deadline),.sy (.int 0 p.a.pace),.sy (.int 0 p.a.again),.sy (.int 0 p.a.bag),.sy (.int 4 p.a.first),.sy (.imm p.a.ho 9 ax p.a.os aI)]],.leaf,0)) Du tO wQ fun p5 r2=>aF fun p6:cu=>mP (([.agg [.sy (.imm r2.t.hg 3 aw r2.t.gs aD),.sy (.int 0 r2.t.clients),.sy (.int 0 r2.t.window),.sy (.int 0 r2.t.deadline),.sy (.int 0 r2.t.pace),.sy (.int 0 r2.t.again),.sy (.int 0 r2.t.bag),.sy (.int 4 r2.t.first),.sy (.imm r2.t.ho 9 ax r2.t.os aI)]],.leaf,0)=fm p6) (mP (bZ p6) (ac (iP (fQ p6) (ac (qL [qY ((.imm r2.t.hg 3 aw r2.t.gs aD)),qI 0 r2.t.clients,qI 0 r2.t.window,qI 0 r2.t.deadline,qI 0 r2.t.pace,qI 0 r2.t.again,qI 0 r2.t.bag,qI 4 r2.t.first,qY ((.imm r2.t.ho 9 ax r2.t.os aI))]) (aM (([.agg [.sy (.imm r2.t.hg 3 aw r2.t.gs aD),.sy (.int 0 r2.t.clients),.sy (.int 0 r2.t.window),.sy (.int 0 r2.t.deadline),.sy (.int 0 r2.t.pace),.sy (.int 0 r2.t.again),.sy (.int 0 r2.t.bag),.sy (.int 4 r2.t.first),.sy (.imm r2.t.ho 9 ax r2.t.os aI)]],.leaf,0)) cG aZ bc fun p35 r24=>iP (r24.q) z0 (mP (p.t.length≤70000) (ac (am fun rd6:ah=>iP (jN rd6∧rd6.os.length≤70000∧dt eF 1 p.t (li rd6) 0) (iP (¬(0:Int)=(0:Int)) (iP ((0:Int)<(0:Int)) (aF fun p36:gA=>mP (([.agg [.sy (.prow 0 rd6.gs.length),.sy (.int 0 rd6.clients),.sy (.int 0 rd6.window),.sy (.int 0 rd6.deadline),.sy (.int 0 rd6.pace),.sy (.int 0 rd6.again),.sy (.int 0 rd6.bag),.sy (.int 4 rd6.first),.sy (.prow 1 rd6.os.length)],.agg [.nilS,.int 0 (.ofNat 0),.int 0 (.ofNat 0),.int 0 (.ofNat 0),.int 0 (.ofNat 0),.int 0 (.ofNat 0),.int 0 (.ofNat 0),.int 4 (.ofNat 0),.nilS]],(.node (.node .leaf (some (.prow 54 9 ax rd6.os aI)) .leaf) (some (.prow 82 3 aw rd6.gs aD)) .leaf),2)=fL p36) z1) z0) (mP (rd6.gs.length=rd6.gs.length) (am fun h21:Value=>mP ((.sy (.prow 1 rd6.gs.length):AV)=(.sy (.prow 1 rd6.gs.length):AV)) (mP (rd6.os.length=rd6.os.length) (am fun h22:Value=>mP ((.sy (.prow 2 rd6.os.length):AV)=(.sy (.prow 2 rd6.os.length):AV)) (aF fun p37:cu=>mP (([.agg [.sy (.imm h21 3 aw rd6.gs aD),.sy (.int 0 rd6.clients),.sy (.int 0 rd6.window),.sy (.int 0 rd6.deadline),.sy (.int 0 rd6.pace),.sy (.int 0 rd6.again),.sy (.int 0 rd6.bag),.sy (.int 4 rd6.first),.sy (.imm h22 9 ax rd6.os aI)]],.leaf,0)=fm p37) (mP (bZ p37) (ac (iP (fQ p37) z0 true) (ac (iP (fb p37) z0 true) (am fun r25:eS=>iP (eZ p37 r25) (iP (r25.t=p.t) (aM (([.agg [.sy (.imm h21 3 aw rd6.gs aD),.sy (.int 0 rd6.clients),.sy (.int 0 rd6.window),.sy (.int 0 rd6.deadline),.sy (.int 0 rd6.pace),.sy (.int 0 rd6.again),.sy (.int 0 rd6.bag),.sy (.int 4 rd6.first),.sy (.imm h22 9 ax rd6.os aI)]],.leaf,0)) cG aZ bc fun p38 r26=>K (.sy (.bool r26.q)) .leaf 0) z0) true)))))))))) true) (am fun m6:Int=>iP (dt eF 1 p.t jO m6) (iP (¬m6=(0:Int)) (iP ((0:Int)<m6) (aF fun p39:gA=>mP (([.agg [.nilS,.int 0 (.ofNat 0),.int 0 (.ofNat 0),.int 0 (.ofNat 0),.int 0 (.ofNat 0),.int 0 (.ofNat 0),.int 0 (.ofNat 0),.int 4 (.ofNat 0),.nilS],.agg [.nilS,.int 0 (.ofNat 0),.int 0 (.ofNat 0),.int 0 (.ofNat 0),.int 0 (.ofNat 0),.int 0 (.ofNat 0),.int 0 (.ofNat 0),.int 4 (.ofNat 0),.nilS]],.leaf,0)=fL p39) z1) z0) (mP ((.nilS:AV)=(.nilS:AV)) (mP (0=([]:List aw).length) (am fun h23:Value=>mP ((.sy (.prow 1 0):AV)=(.sy (.prow 1 0):AV)) (mP ((.nilS:AV)=(.nilS:AV)) (mP (0=([]:List ax).length) (am fun h24:Value=>mP ((.sy (.prow 2 0):AV)=(.sy (.prow 2 0):AV)) (aF fun p40:cu=>mP (([.agg [.sy (.imm h23 3 aw ([]:List aw) aD),.sy (.int 0 0),.sy (.int 0 0),.sy (.int 0 0),.sy (.int 0 0),.sy (.int 0 0),.sy (.int 0 0),.sy (.int 4 0),.sy (.imm h24 9 ax ([]:List ax) aI)]],.leaf,0)=fm p40) (mP (bZ p40) (ac (iP (fQ p40) z0 true) (ac (iP (fb p40) z0 true) (am fun r27:eS=>iP (eZ p40 r27) (iP (r27.t=p.t) (aM (([.agg [.sy (.imm h23 3 aw ([]:List aw) aD),.sy (.int 0 0),.sy (.int 0 0),.sy (.int 0 0),.sy (.int 0 0),.sy (.int 0 0),.sy (.int 0 0),.sy (.int 4 0),.sy (.imm h24 9 ax ([]:List ax) aI)]],.leaf,0)) cG aZ bc fun p41 r28=>K (.sy (.bool r28.q)) .leaf 0) z0) true)))))))))))) true))))) true) (ac (iP (fb p6) (ac (qL [qY ((.imm r2.t.hg 3 aw r2.t.gs aD)),qI 0 r2.t.clients,qI 0 r2.t.window,qI 0 r2.t.deadline,qI 0 r2.t.pace,qI 0 r2.t.again,qI 0 r2.t.bag,qI 4 r2.t.first,qY ((.imm r2.t.ho 9 ax r2.t.os aI))]) (aM (([.agg [.sy (.imm r2.t.hg 3 aw r2.t.gs aD),.sy (.int 0 r2.t.clients),.sy (.int 0 r2.t.window),.sy (.int 0 r2.t.deadline),.sy (.int 0 r2.t.pace),.sy (.int 0 r2.t.again),.sy (.int 0 r2.t.bag),.sy (.int 4 r2.t.first),.sy (.imm r2.t.ho 9 ax r2.t.os aI)]],.leaf,0)) cG aZ bc fun p22 r15=>iP (r15.q) (mP (p.t.length≤70000) (ac (am fun rd4:ah=>iP (jN rd4∧rd4.os.length≤70000∧dt eF 1 p.t (li rd4) 0) (iP (¬(0:Int)=(0:Int)) (iP ((0:Int)<(0:Int)) (aF fun p23:gA=>mP (([.agg [.sy (.prow 0 rd4.gs.length),.sy (.int 0 rd4.clients),.sy (.int 0 rd4.window),.sy (.int 0 rd4.deadline),.sy (.int 0 rd4.pace),.sy (.int 0 rd4.again),.sy (.int 0 rd4.bag),.sy (.int 4 rd4.first),.sy (.prow 1 rd4.os.length)],.agg [.nilS,.int 0 (.ofNat 0),.int 0 (.ofNat 0),.int 0 (.ofNat 0),.int 0 (.ofNat 0),.int 0 (.ofNat 0),.int 0 (.ofNat 0),.int 4 (.ofNat 0),.nilS]],(.node (.node .leaf (some (.prow 54 9 ax rd4.os aI)) .leaf) (some (.prow 82 3 aw rd4.gs aD)) .leaf),2)=fL p23) z1) z0) (mP (rd4.gs.length=rd4.gs.length) (am fun h13:Value=>mP ((.sy (.prow 1 rd4.gs.length):AV)=(.sy (.prow 1 rd4.gs.length):AV)) (mP (rd4.os.length=rd4.os.length) (am fun h14:Value=>mP ((.sy (.prow 2 rd4.os.length):AV)=(.sy (.prow 2 rd4.os.length):AV)) (aF fun p24:cu=>mP (([.agg [.sy (.imm h13 3 aw rd4.gs aD),.sy (.int 0 rd4.clients),.sy (.int 0 rd4.window),.sy (.int 0 rd4.deadline),.sy (.int 0 rd4.pace),.sy (.int 0 rd4.again),.sy (.int 0 rd4.bag),.sy (.int 4 rd4.first),.sy (.imm h14 9 ax rd4.os aI)]],.leaf,0)=fm p24) (mP (bZ p24) (ac (iP (fQ p24) z0 true) (ac (iP (fb p24) z0 true) (am fun r16:eS=>iP (eZ p24 r16) (iP (r16.t=p.t) (aM (([.agg [.sy (.imm h13 3 aw rd4.gs aD),.sy (.int 0 rd4.clients),.sy (.int 0 rd4.window),.sy (.int 0 rd4.deadline),.sy (.int 0 rd4.pace),.sy (.int 0 rd4.again),.sy (.int 0 rd4.bag),.sy (.int 4 rd4.first),.sy (.imm h14 9 ax rd4.os aI)]],.leaf,0)) cG aZ bc fun p25 r17=>K (.sy (.bool r17.q)) .leaf 0) z0) true)))))))))) true) (am fun m4:Int=>iP (dt eF 1 p.t jO m4) (iP (¬m4=(0:Int)) (iP ((0:Int)<m4) (aF fun p26:gA=>mP (([.agg [.nilS,.int 0 (.ofNat 0),.int 0 (.ofNat 0),.int 0 (.ofNat 0),.int 0 (.ofNat 0),.int 0 (.ofNat 0),.int 0 (.ofNat 0),.int 4 (.ofNat 0),.nilS],.agg [.nilS,.int 0 (.ofNat 0),.int 0 (.ofNat 0),.int 0 (.ofNat 0),.int 0 (.ofNat 0),.int 0 (.ofNat 0),.int 0 (.ofNat 0),.int 4 (.ofNat 0),.nilS]],.leaf,0)=fL p26) z1) z0) (mP ((.nilS:AV)=(.nilS:AV)) (mP (0=([]:List aw).length) (am fun h15:Value=>mP ((.sy (.prow 1 0):AV)=(.sy (.prow 1 0):AV)) (mP ((.nilS:AV)=(.nilS:AV)) (mP (0=([]:List ax).length) (am fun h16:Value=>mP ((.sy (.prow 2 0):AV)=(.sy (.prow 2 0):AV)) (aF fun p27:cu=>mP (([.agg [.sy (.imm h15 3 aw ([]:List aw) aD),.sy (.int 0 0),.sy (.int 0 0),.sy (.int 0 0),.sy (.int 0 0),.sy (.int 0 0),.sy (.int 0 0),.sy (.int 4 0),.sy (.imm h16 9 ax ([]:List ax) aI)]],.leaf,0)=fm p27) (mP (bZ p27) (ac (iP (fQ p27) z0 true) (ac (iP (fb p27) z0 true) (am fun r18:eS=>iP (eZ p27 r18) (iP (r18.t=p.t) (aM (([.agg [.sy (.imm h15 3 aw ([]:List aw) aD),.sy (.int 0 0),.sy (.int 0 0),.sy (.int 0 0),.sy (.int 0 0),.sy (.int 0 0),.sy (.int 0 0),.sy (.int 4 0),.sy (.imm h16 9 ax ([]:List ax) aI)]],.leaf,0)) cG aZ bc fun p28 r19=>K (.sy (.bool r19.q)) .leaf 0) z0) true)))))))))))) true))) (mP (p.t.length≤70000) (ac (am fun rd5:ah=>iP (jN rd5∧rd5.os.length≤70000∧dt eF 1 p.t (li rd5) 0) (iP (¬(0:Int)=(0:Int)) (iP ((0:Int)<(0:Int)) (aF fun p29:gA=>mP (([.agg [.sy (.prow 0 rd5.gs.length),.sy (.int 0 rd5.clients),.sy (.int 0 rd5.window),.sy (.int 0 rd5.deadline),.sy (.int 0 rd5.pace),.sy (.int 0 rd5.again),.sy (.int 0 rd5.bag),.sy (.int 4 rd5.first),.sy (.prow 1 rd5.os.length)],.agg [.nilS,.int 0 (.ofNat 0),.int 0 (.ofNat 0),.int 0 (.ofNat 0),.int 0 (.ofNat 0),.int 0 (.ofNat 0),.int 0 (.ofNat 0),.int 4 (.ofNat 0),.nilS]],(.node (.node .leaf (some (.prow 54 9 ax rd5.os aI)) .leaf) (some (.prow 82 3 aw rd5.gs aD)) .leaf),2)=fL p29) z1) z0) (mP (rd5.gs.length=rd5.gs.length) (am fun h17:Value=>mP ((.sy (.prow 1 rd5.gs.length):AV)=(.sy (.prow 1 rd5.gs.length):AV)) (mP (rd5.os.length=rd5.os.length) (am fun h18:Value=>mP ((.sy (.prow 2 rd5.os.length):AV)=(.sy (.prow 2 rd5.os.length):AV)) (aF fun p30:cu=>mP (([.agg [.sy (.imm h17 3 aw rd5.gs aD),.sy (.int 0 rd5.clients),.sy (.int 0 rd5.window),.sy (.int 0 rd5.deadline),.sy (.int 0 rd5.pace),.sy (.int 0 rd5.again),.sy (.int 0 rd5.bag),.sy (.int 4 rd5.first),.sy (.imm h18 9 ax rd5.os aI)]],.leaf,0)=fm p30) (mP (bZ p30) (ac (iP (fQ p30) z0 true) (ac (iP (fb p30) z0 true) (am fun r20:eS=>iP (eZ p30 r20) (iP (r20.t=p.t) (aM (([.agg [.sy (.imm h17 3 aw rd5.gs aD),.sy (.int 0 rd5.clients),.sy (.int 0 rd5.window),.sy (.int 0 rd5.deadline),.sy (.int 0 rd5.pace),.sy (.int 0 rd5.again),.sy (.int 0 rd5.bag),.sy (.int 4 rd5.first),.sy (.imm h18 9 ax rd5.os aI)]],.leaf,0)) cG aZ bc fun p31 r21=>K (.sy (.bool r21.q)) .leaf 0) z0) true)))))))))) true) (am fun m5:Int=>iP (dt eF 1 p.t jO m5) (iP (¬m5=(0:Int)) (iP ((0:Int)<m5) (aF fun p32:gA=>mP (([.agg [.nilS,.int 0 (.ofNat 0),.int 0 (.ofNat 0),.int 0 (.ofNat 0),.int 0 (.ofNat 0),.int 0 (.ofNat 0),.int 0 (.ofNat 0),.int 4 (.ofNat 0),.nilS],.agg [.nilS,.int 0 (.ofNat 0),.int 0 (.ofNat 0),.int 0 (.ofNat 0),.int 0 (.ofNat 0),.int 0 (.ofNat 0),.int 0 (.ofNat 0),.int 4 (.ofNat 0),.nilS]],.leaf,0)=fL p32) z1) z0) (mP ((.nilS:AV)=(.nilS:AV)) (mP (0=([]:List aw).length) (am fun h19:Value=>mP ((.sy (.prow 1 0):AV)=(.sy (.prow 1 0):AV)) (mP ((.nilS:AV)=(.nilS:AV)) (mP (0=([]:List ax).length) (am fun h20:Value=>mP ((.sy (.prow 2 0):AV)=(.sy (.prow 2 0):AV)) (aF fun p33:cu=>mP (([.agg [.sy (.imm h19 3 aw ([]:List aw) aD),.sy (.int 0 0),.sy (.int 0 0),.sy (.int 0 0),.sy (.int 0 0),.sy (.int 0 0),.sy (.int 0 0),.sy (.int 4 0),.sy (.imm h20 9 ax ([]:List ax) aI)]],.leaf,0)=fm p33) (mP (bZ p33) (ac (iP (fQ p33) z0 true) (ac (iP (fb p33) z0 true) (am fun r22:eS=>iP (eZ p33 r22) (iP (r22.t=p.t) (aM (([.agg [.sy (.imm h19 3 aw ([]:List aw) aD),.sy (.int 0 0),.sy (.int 0 0),.sy (.int 0 0),.sy (.int 0 0),.sy (.int 0 0),.sy (.int 0 0),.sy (.int 4 0),.sy (.imm h20 9 ax ([]:List ax) aI)]],.leaf,0)) cG aZ bc fun p34 r23=>K (.sy (.bool r23.q)) .leaf 0) z0) true)))))))))))) true))))) true) (am fun r3:eS=>iP (eZ p6 r3) (ac (qL [qY ((.imm r2.t.hg 3 aw r2.t.gs aD)),qI 0 r2.t.clients,qI 0 r2.t.window,qI 0 r2.t.deadline,qI 0 r2.t.pace,qI 0 r2.t.again,qI 0 r2.t.bag,qI 4 r2.t.first,qY ((.imm r2.t.ho 9 ax r2.t.os aI))]) (aM (([.agg [.sy (.imm r2.t.hg 3 aw r2.t.gs aD),.sy (.int 0 r2.t.clients),.sy (.int 0 r2.t.window),.sy (.int 0 r2.t.deadline),.sy (.int 0 r2.t.pace),.sy (.int 0 r2.t.again),.sy (.int 0 r2.t.bag),.sy (.int 4 r2.t.first),.sy (.imm r2.t.ho 9 ax r2.t.os aI)]],.leaf,0)) cG aZ bc fun p7 r4=>iP (r4.q) (mP (r3.t.length≤70000) (ac (am fun rd1:ah=>iP (jN rd1∧rd1.os.length≤70000∧dt eF 1 r3.t (li rd1) 0) (mP (rd1.gs.length=rd1.gs.length) (am fun h1:Value=>mP ((.sy (.prow 2 rd1.gs.length):AV)=(.sy (.prow 2 rd1.gs.length):AV)) (mP (rd1.os.length=rd1.os.length) (am fun h2:Value=>mP ((.sy (.prow 3 rd1.os.length):AV)=(.sy (.prow 3 rd1.os.length):AV)) (iP (¬(0:Int)=(0:Int)) z0 (aM (([.agg [.sy (.imm r2.t.hg 3 aw r2.t.gs aD),.sy (.int 0 r2.t.clients),.sy (.int 0 r2.t.window),.sy (.int 0 r2.t.deadline),.sy (.int 0 r2.t.pace),.sy (.int 0 r2.t.again),.sy (.int 0 r2.t.bag),.sy (.int 4 r2.t.first),.sy (.imm r2.t.ho 9 ax r2.t.os aI)],.agg [.sy (.imm h1 3 aw rd1.gs aD),.sy (.int 0 rd1.clients),.sy (.int 0 rd1.window),.sy (.int 0 rd1.deadline),.sy (.int 0 rd1.pace),.sy (.int 0 rd1.again),.sy (.int 0 rd1.bag),.sy (.int 4 rd1.first),.sy (.imm h2 9 ax rd1.os aI)]],.leaf,0)) kB fZ dC fun p8 r5=>iP (¬r5.q) z0 (mP (p.t.length≤70000) (ac (am fun rd2:ah=>iP (jN rd2∧rd2.os.length≤70000∧dt eF 1 p.t (li rd2) 0) (iP (¬(0:Int)=(0:Int)) (iP ((0:Int)<(0:Int)) (aF fun p9:gA=>mP (([.agg [.sy (.prow 0 rd2.gs.length),.sy (.int 0 rd2.clients),.sy (.int 0 rd2.window),.sy (.int 0 rd2.deadline),.sy (.int 0 rd2.pace),.sy (.int 0 rd2.again),.sy (.int 0 rd2.bag),.sy (.int 4 rd2.first),.sy (.prow 1 rd2.os.length)],.agg [.nilS,.int 0 (.ofNat 0),.int 0 (.ofNat 0),.int 0 (.ofNat 0),.int 0 (.ofNat 0),.int 0 (.ofNat 0),.int 0 (.ofNat 0),.int 4 (.ofNat 0),.nilS]],(.node (.node .leaf (some (.prow 54 9 ax rd2.os aI)) .leaf) (some (.prow 82 3 aw rd2.gs aD)) .leaf),2)=fL p9) z1) z0) (mP (rd2.gs.length=rd2.gs.length) (am fun h3:Value=>mP ((.sy (.prow 1 rd2.gs.length):AV)=(.sy (.prow 1 rd2.gs.length):AV)) (mP (rd2.os.length=rd2.os.length) (am fun h4:Value=>mP ((.sy (.prow 2 rd2.os.length):AV)=(.sy (.prow 2 rd2.os.length):AV)) (aF fun p10:cu=>mP (([.agg [.sy (.imm h3 3 aw rd2.gs aD),.sy (.int 0 rd2.clients),.sy (.int 0 rd2.window),.sy (.int 0 rd2.deadline),.sy (.int 0 rd2.pace),.sy (.int 0 rd2.again),.sy (.int 0 rd2.bag),.sy (.int 4 rd2.first),.sy (.imm h4 9 ax rd2.os aI)]],.leaf,0)=fm p10) (mP (bZ p10) (ac (iP (fQ p10) z0 true) (ac (iP (fb p10) z0 true) (am fun r6:eS=>iP (eZ p10 r6) (iP (r6.t=p.t) (aM (([.agg [.sy (.imm h3 3 aw rd2.gs aD),.sy (.int 0 rd2.clients),.sy (.int 0 rd2.window),.sy (.int 0 rd2.deadline),.sy (.int 0 rd2.pace),.sy (.int 0 rd2.again),.sy (.int 0 rd2.bag),.sy (.int 4 rd2.first),.sy (.imm h4 9 ax rd2.os aI)]],.leaf,0)) cG aZ bc fun p11 r7=>K (.sy (.bool r7.q)) .leaf 0) z0) true)))))))))) true) (am fun m2:Int=>iP (dt eF 1 p.t jO m2) (iP (¬m2=(0:Int)) (iP ((0:Int)<m2) (aF fun p12:gA=>mP (([.agg [.nilS,.int 0 (.ofNat 0),.int 0 (.ofNat 0),.int 0 (.ofNat 0),.int 0 (.ofNat 0),.int 0 (.ofNat 0),.int 0 (.ofNat 0),.int 4 (.ofNat 0),.nilS],.agg [.nilS,.int 0 (.ofNat 0),.int 0 (.ofNat 0),.int 0 (.ofNat 0),.int 0 (.ofNat 0),.int 0 (.ofNat 0),.int 0 (.ofNat 0),.int 4 (.ofNat 0),.nilS]],.leaf,0)=fL p12) z1) z0) (mP ((.nilS:AV)=(.nilS:AV)) (mP (0=([]:List aw).length) (am fun h5:Value=>mP ((.sy (.prow 1 0):AV)=(.sy (.prow 1 0):AV)) (mP ((.nilS:AV)=(.nilS:AV)) (mP (0=([]:List ax).length) (am fun h6:Value=>mP ((.sy (.prow 2 0):AV)=(.sy (.prow 2 0):AV)) (aF fun p13:cu=>mP (([.agg [.sy (.imm h5 3 aw ([]:List aw) aD),.sy (.int 0 0),.sy (.int 0 0),.sy (.int 0 0),.sy (.int 0 0),.sy (.int 0 0),.sy (.int 0 0),.sy (.int 4 0),.sy (.imm h6 9 ax ([]:List ax) aI)]],.leaf,0)=fm p13) (mP (bZ p13) (ac (iP (fQ p13) z0 true) (ac (iP (fb p13) z0 true) (am fun r8:eS=>iP (eZ p13 r8) (iP (r8.t=p.t) (aM (([.agg [.sy (.imm h5 3 aw ([]:List aw) aD),.sy (.int 0 0),.sy (.int 0 0),.sy (.int 0 0),.sy (.int 0 0),.sy (.int 0 0),.sy (.int 0 0),.sy (.int 4 0),.sy (.imm h6 9 ax ([]:List ax) aI)]],.leaf,0)) cG aZ bc fun p14 r9=>K (.sy (.bool r9.q)) .leaf 0) z0) true)))))))))))) true))))))))) true) (am fun m1:Int=>iP (dt eF 1 r3.t jO m1) (mP ((.nilS:AV)=(.nilS:AV)) (mP (0=([]:List aw).length) (am fun h7:Value=>mP ((.sy (.prow 2 0):AV)=(.sy (.prow 2 0):AV)) (mP ((.nilS:AV)=(.nilS:AV)) (mP (0=([]:List ax).length) (am fun h8:Value=>mP ((.sy (.prow 3 0):AV)=(.sy (.prow 3 0):AV)) (iP (¬m1=(0:Int)) z0 (aM (([.agg [.sy (.imm r2.t.hg 3 aw r2.t.gs aD),.sy (.int 0 r2.t.clients),.sy (.int 0 r2.t.window),.sy (.int 0 r2.t.deadline),.sy (.int 0 r2.t.pace),.sy (.int 0 r2.t.again),.sy (.int 0 r2.t.bag),.sy (.int 4 r2.t.first),.sy (.imm r2.t.ho 9 ax r2.t.os aI)],.agg [.sy (.imm h7 3 aw ([]:List aw) aD),.sy (.int 0 0),.sy (.int 0 0),.sy (.int 0 0),.sy (.int 0 0),.sy (.int 0 0),.sy (.int 0 0),.sy (.int 4 0),.sy (.imm h8 9 ax ([]:List ax) aI)]],.leaf,0)) kB fZ dC fun p15 r10=>iP (¬r10.q) z0 (mP (p.t.length≤70000) (ac (am fun rd3:ah=>iP (jN rd3∧rd3.os.length≤70000∧dt eF 1 p.t (li rd3) 0) (iP (¬(0:Int)=(0:Int)) (iP ((0:Int)<(0:Int)) (aF fun p16:gA=>mP (([.agg [.sy (.prow 0 rd3.gs.length),.sy (.int 0 rd3.clients),.sy (.int 0 rd3.window),.sy (.int 0 rd3.deadline),.sy (.int 0 rd3.pace),.sy (.int 0 rd3.again),.sy (.int 0 rd3.bag),.sy (.int 4 rd3.first),.sy (.prow 1 rd3.os.length)],.agg [.nilS,.int 0 (.ofNat 0),.int 0 (.ofNat 0),.int 0 (.ofNat 0),.int 0 (.ofNat 0),.int 0 (.ofNat 0),.int 0 (.ofNat 0),.int 4 (.ofNat 0),.nilS]],(.node (.node .leaf (some (.prow 54 9 ax rd3.os aI)) .leaf) (some (.prow 82 3 aw rd3.gs aD)) .leaf),2)=fL p16) z1) z0) (mP (rd3.gs.length=rd3.gs.length) (am fun h9:Value=>mP ((.sy (.prow 1 rd3.gs.length):AV)=(.sy (.prow 1 rd3.gs.length):AV)) (mP (rd3.os.length=rd3.os.length) (am fun h10:Value=>mP ((.sy (.prow 2 rd3.os.length):AV)=(.sy (.prow 2 rd3.os.length):AV)) (aF fun p17:cu=>mP (([.agg [.sy (.imm h9 3 aw rd3.gs aD),.sy (.int 0 rd3.clients),.sy (.int 0 rd3.window),.sy (.int 0 rd3.deadline),.sy (.int 0 rd3.pace),.sy (.int 0 rd3.again),.sy (.int 0 rd3.bag),.sy (.int 4 rd3.first),.sy (.imm h10 9 ax rd3.os aI)]],.leaf,0)=fm p17) (mP (bZ p17) (ac (iP (fQ p17) z0 true) (ac (iP (fb p17) z0 true) (am fun r11:eS=>iP (eZ p17 r11) (iP (r11.t=p.t) (aM (([.agg [.sy (.imm h9 3 aw rd3.gs aD),.sy (.int 0 rd3.clients),.sy (.int 0 rd3.window),.sy (.int 0 rd3.deadline),.sy (.int 0 rd3.pace),.sy (.int 0 rd3.again),.sy (.int 0 rd3.bag),.sy (.int 4 rd3.first),.sy (.imm h10 9 ax rd3.os aI)]],.leaf,0)) cG aZ bc fun p18 r12=>K (.sy (.bool r12.q)) .leaf 0) z0) true)))))))))) true) (am fun m3:Int=>iP (dt eF 1 p.t jO m3) (iP (¬m3=(0:Int)) (iP ((0:Int)<m3) (aF fun p19:gA=>mP (([.agg [.nilS,.int 0 (.ofNat 0),.int 0 (.ofNat 0),.int 0 (.ofNat 0),.int 0 (.ofNat 0),.int 0 (.ofNat 0),.int 0 (.ofNat 0),.int 4 (.ofNat 0),.nilS],.agg [.nilS,.int 0 (.ofNat 0),.int 0 (.ofNat 0),.int 0 (.ofNat 0),.int 0 (.ofNat 0),.int 0 (.ofNat 0),.int 0 (.ofNat 0),.int 4 (.ofNat 0),.nilS]],.leaf,0)=fL p19) z1) z0) (mP ((.nilS:AV)=(.nilS:AV)) (mP (0=([]:List aw).length) (am fun h11:Value=>mP ((.sy (.prow 1 0):AV)=(.sy (.prow 1 0):AV)) (mP ((.nilS:AV)=(.nilS:AV)) (mP (0=([]:List ax).length) (am fun h12:Value=>mP ((.sy (.prow 2 0):AV)=(.sy (.prow 2 0):AV)) (aF fun p20:cu=>mP (([.agg [.sy (.imm h11 3 aw ([]:List aw) aD),.sy (.int 0 0),.sy (.int 0 0),.sy (.int 0 0),.sy (.int 0 0),.sy (.int 0 0),.sy (.int 0 0),.sy (.int 4 0),.sy (.imm h12 9 ax ([]:List ax) aI)]],.leaf,0)=fm p20) (mP (bZ p20) (ac (iP (fQ p20) z0 true) (ac (iP (fb p20) z0 true) (am fun r13:eS=>iP (eZ p20 r13) (iP (r13.t=p.t) (aM (([.agg [.sy (.imm h11 3 aw ([]:List aw) aD),.sy (.int 0 0),.sy (.int 0 0),.sy (.int 0 0),.sy (.int 0 0),.sy (.int 0 0),.sy (.int 0 0),.sy (.int 4 0),.sy (.imm h12 9 ax ([]:List ax) aI)]],.leaf,0)) cG aZ bc fun p21 r14=>K (.sy (.bool r14.q)) .leaf 0) z0) true)))))))))))) true))))))))))) true))) z0)) true)))))))) (aF fun p42:nV=>mP (([],.leaf,0)=mr p42) z1)) true))) (by kernel_rfl) ?_
 obtain⟨hK0,hKr0⟩:=ai hK
 have hK1:=hKr0
 dsimp only[nv]at hpre
 refine cU (⟨p.a.ho,p.a.os⟩:rC) rfl fun r1 hi1=> ?_
 dsimp only[pO]at hi1
 refine iI (fun hc2=> ?_) (fun hc2=> ?_)
 refine iI (fun hc3=> ?_) (fun hc3=> ?_)
 refine aK ⟨⟩ ?_
 refine aL ?_
 exact hK0
 refine iI (fun hc4=> ?_) (fun hc4=> ?_)
 refine aK ⟨⟩ ?_
 refine aL ?_
 exact hK0
 refine aK ⟨⟩ ?_
 refine aL ?_
 refine ay (⟨p.a⟩:wn) rfl (by(try dsimp only[tO]);exact⟨(by first|assumption|exact Md (by assumption) (by assumption) (by assumption)|exact(by assumption:_→gT _) (by assumption)),(by first|omega|exact QR (by assumption) (by omega))⟩) fun r2 hi5=> ?_
 dsimp only[wQ]at hi5
 refine dx (⟨r2.t⟩:cu) rfl (by(try dsimp only[bZ]);first|exact bx (by assumption) (by assumption) (by assumption) (by omega) hpre|exact⟨cW (by assumption),dQ (by assumption),(eW (by assumption)).2.1⟩|exact⟨cX,by simp,jS⟩) ?_
 refine aE ?_ ?_
 refine iI (p:=¬cB r2.t) (fun hi6=> ?_) (fun _=>rfl)
 refine aE (by simp[qL,qI,qS,qY,aC]) ?_
 refine ay (⟨r2.t⟩:cv) rfl (by(try dsimp only[aZ]);first|exact⟨(bx (by assumption) (by assumption) (by assumption) (by omega) hpre).1,(bx (by assumption) (by assumption) (by assumption) (by omega) hpre).2.1⟩|exact⟨cW (by assumption),dQ (by assumption)⟩|exact⟨cX,by simp⟩) fun r24 hi7=> ?_
 dsimp only[bc]at hi7
 refine iI (fun hc8=> ?_) (fun hc8=> ?_)
 exfalso;exact dD
 refine jE ?_
 refine aE ?_ ?_
 refine az (fun rd6=> ?_)
 refine iI (fun hi9=> ?_) (fun _=>rfl)
 refine iI (fun hc10=> ?_) (fun hc10=> ?_)
 refine iI (fun hc11=> ?_) (fun hc11=> ?_)
 exfalso;exact dD
 exfalso;exact dD
 refine aL ?_
 refine az (fun h21=> ?_)
 refine aL (aL ?_)
 refine az (fun h22=> ?_)
 refine aL ?_
 refine dx (⟨⟨h21,rd6.gs,rd6.clients,rd6.window,rd6.deadline,rd6.pace,rd6.again,rd6.bag,rd6.first,h22,rd6.os⟩⟩:cu) rfl (by(try dsimp only[bZ]);first|exact bx (by assumption) (by assumption) (by assumption) (by omega) hpre|exact⟨cW (by assumption),dQ (by assumption),(eW (by assumption)).2.1⟩|exact⟨cX,by simp,jS⟩) ?_
 refine aE ?_ ?_
 refine iI (p:=¬cB (⟨h21,rd6.gs,rd6.clients,rd6.window,rd6.deadline,rd6.pace,rd6.again,rd6.bag,rd6.first,h22,rd6.os⟩:bN)) (fun hi12=> ?_) (fun _=>rfl)
 exfalso;exact dD
 refine aE ?_ ?_
 refine iI (p:=cB (⟨h21,rd6.gs,rd6.clients,rd6.window,rd6.deadline,rd6.pace,rd6.again,rd6.bag,rd6.first,h22,rd6.os⟩:bN)∧65536<(cA (⟨h21,rd6.gs,rd6.clients,rd6.window,rd6.deadline,rd6.pace,rd6.again,rd6.bag,rd6.first,h22,rd6.os⟩:bN)).length) (fun hi13=> ?_) (fun _=>rfl)
 exfalso;exact dD
 refine az (fun r25=> ?_)
 refine iI (p:=cB (⟨h21,rd6.gs,rd6.clients,rd6.window,rd6.deadline,rd6.pace,rd6.again,rd6.bag,rd6.first,h22,rd6.os⟩:bN)∧r25.t=cA (⟨h21,rd6.gs,rd6.clients,rd6.window,rd6.deadline,rd6.pace,rd6.again,rd6.bag,rd6.first,h22,rd6.os⟩:bN)∧r25.t.length≤65536) (fun hi14=> ?_) (fun _=>rfl)
 refine iI (fun hc15=> ?_) (fun hc15=> ?_)
 refine ay (⟨⟨h21,rd6.gs,rd6.clients,rd6.window,rd6.deadline,rd6.pace,rd6.again,rd6.bag,rd6.first,h22,rd6.os⟩⟩:cv) rfl (by(try dsimp only[aZ]);first|exact⟨(bx (by assumption) (by assumption) (by assumption) (by omega) hpre).1,(bx (by assumption) (by assumption) (by assumption) (by omega) hpre).2.1⟩|exact⟨cW (by assumption),dQ (by assumption)⟩|exact⟨cX,by simp⟩) fun r26 hi16=> ?_
 dsimp only[bc]at hi16
 exact au (show r26.q from(by first|exact q_ (by assumption) (by assumption)|(exfalso;exact yh (by assumption) (by omega)))) (aG hK1 (⟨r26.q⟩:cV))
 exfalso;exact dD
 refine az (fun m6=> ?_)
 refine iI (fun hi17=> ?_) (fun _=>rfl)
 refine iI (fun hc18=> ?_) (fun hc18=> ?_)
 refine iI (fun hc19=> ?_) (fun hc19=> ?_)
 refine aK ⟨⟩ ?_
 refine aL ?_
 exact hK0
 exfalso;exact dD
 refine aL (aL ?_)
 refine az (fun h23=> ?_)
 refine aL (aL (aL ?_))
 refine az (fun h24=> ?_)
 refine aL ?_
 refine dx (⟨⟨h23,([]:List aw),(0:Int),(0:Int),(0:Int),(0:Int),(0:Int),(0:Int),(0:Int),h24,([]:List ax)⟩⟩:cu) rfl (by(try dsimp only[bZ]);first|exact bx (by assumption) (by assumption) (by assumption) (by omega) hpre|exact⟨cW (by assumption),dQ (by assumption),(eW (by assumption)).2.1⟩|exact⟨cX,by simp,jS⟩) ?_
 refine aE ?_ ?_
 refine iI (p:=¬cB (⟨h23,([]:List aw),(0:Int),(0:Int),(0:Int),(0:Int),(0:Int),(0:Int),(0:Int),h24,([]:List ax)⟩:bN)) (fun hi20=> ?_) (fun _=>rfl)
 exfalso;exact dD
 refine aE ?_ ?_
 refine iI (p:=cB (⟨h23,([]:List aw),(0:Int),(0:Int),(0:Int),(0:Int),(0:Int),(0:Int),(0:Int),h24,([]:List ax)⟩:bN)∧65536<(cA (⟨h23,([]:List aw),(0:Int),(0:Int),(0:Int),(0:Int),(0:Int),(0:Int),(0:Int),h24,([]:List ax)⟩:bN)).length) (fun hi21=> ?_) (fun _=>rfl)
 exfalso;exact dD
 refine az (fun r27=> ?_)
 refine iI (p:=cB (⟨h23,([]:List aw),(0:Int),(0:Int),(0:Int),(0:Int),(0:Int),(0:Int),(0:Int),h24,([]:List ax)⟩:bN)∧r27.t=cA (⟨h23,([]:List aw),(0:Int),(0:Int),(0:Int),(0:Int),(0:Int),(0:Int),(0:Int),h24,([]:List ax)⟩:bN)∧r27.t.length≤65536) (fun hi22=> ?_) (fun _=>rfl)
 refine iI (fun hc23=> ?_) (fun hc23=> ?_)
 refine ay (⟨⟨h23,([]:List aw),(0:Int),(0:Int),(0:Int),(0:Int),(0:Int),(0:Int),(0:Int),h24,([]:List ax)⟩⟩:cv) rfl (by(try dsimp only[aZ]);first|exact⟨(bx (by assumption) (by assumption) (by assumption) (by omega) hpre).1,(bx (by assumption) (by assumption) (by assumption) (by omega) hpre).2.1⟩|exact⟨cW (by assumption),dQ (by assumption)⟩|exact⟨cX,by simp⟩) fun r28 hi24=> ?_
 dsimp only[bc]at hi24
 exact au (show r28.q from(by first|exact q_ (by assumption) (by assumption)|(exfalso;exact yh (by assumption) (by omega)))) (aG hK1 (⟨r28.q⟩:cV))
 exfalso;exact dD
 refine aE ?_ ?_
 refine iI (p:=cB r2.t∧65536<(cA r2.t).length) (fun hi25=> ?_) (fun _=>rfl)
 refine aE (by simp[qL,qI,qS,qY,aC]) ?_
 refine ay (⟨r2.t⟩:cv) rfl (by(try dsimp only[aZ]);first|exact⟨(bx (by assumption) (by assumption) (by assumption) (by omega) hpre).1,(bx (by assumption) (by assumption) (by assumption) (by omega) hpre).2.1⟩|exact⟨cW (by assumption),dQ (by assumption)⟩|exact⟨cX,by simp⟩) fun r15 hi26=> ?_
 dsimp only[bc]at hi26
 refine iI (fun hc27=> ?_) (fun hc27=> ?_)
 refine jE ?_
 refine aE ?_ ?_
 refine az (fun rd4=> ?_)
 refine iI (fun hi28=> ?_) (fun _=>rfl)
 refine iI (fun hc29=> ?_) (fun hc29=> ?_)
 refine iI (fun hc30=> ?_) (fun hc30=> ?_)
 exfalso;exact dD
 exfalso;exact dD
 refine aL ?_
 refine az (fun h13=> ?_)
 refine aL (aL ?_)
 refine az (fun h14=> ?_)
 refine aL ?_
 refine dx (⟨⟨h13,rd4.gs,rd4.clients,rd4.window,rd4.deadline,rd4.pace,rd4.again,rd4.bag,rd4.first,h14,rd4.os⟩⟩:cu) rfl (by(try dsimp only[bZ]);first|exact bx (by assumption) (by assumption) (by assumption) (by omega) hpre|exact⟨cW (by assumption),dQ (by assumption),(eW (by assumption)).2.1⟩|exact⟨cX,by simp,jS⟩) ?_
 refine aE ?_ ?_
 refine iI (p:=¬cB (⟨h13,rd4.gs,rd4.clients,rd4.window,rd4.deadline,rd4.pace,rd4.again,rd4.bag,rd4.first,h14,rd4.os⟩:bN)) (fun hi31=> ?_) (fun _=>rfl)
 exfalso;exact dD
 refine aE ?_ ?_
 refine iI (p:=cB (⟨h13,rd4.gs,rd4.clients,rd4.window,rd4.deadline,rd4.pace,rd4.again,rd4.bag,rd4.first,h14,rd4.os⟩:bN)∧65536<(cA (⟨h13,rd4.gs,rd4.clients,rd4.window,rd4.deadline,rd4.pace,rd4.again,rd4.bag,rd4.first,h14,rd4.os⟩:bN)).length) (fun hi32=> ?_) (fun _=>rfl)
 exfalso;exact dD
 refine az (fun r16=> ?_)
 refine iI (p:=cB (⟨h13,rd4.gs,rd4.clients,rd4.window,rd4.deadline,rd4.pace,rd4.again,rd4.bag,rd4.first,h14,rd4.os⟩:bN)∧r16.t=cA (⟨h13,rd4.gs,rd4.clients,rd4.window,rd4.deadline,rd4.pace,rd4.again,rd4.bag,rd4.first,h14,rd4.os⟩:bN)∧r16.t.length≤65536) (fun hi33=> ?_) (fun _=>rfl)
 refine iI (fun hc34=> ?_) (fun hc34=> ?_)
 refine ay (⟨⟨h13,rd4.gs,rd4.clients,rd4.window,rd4.deadline,rd4.pace,rd4.again,rd4.bag,rd4.first,h14,rd4.os⟩⟩:cv) rfl (by(try dsimp only[aZ]);first|exact⟨(bx (by assumption) (by assumption) (by assumption) (by omega) hpre).1,(bx (by assumption) (by assumption) (by assumption) (by omega) hpre).2.1⟩|exact⟨cW (by assumption),dQ (by assumption)⟩|exact⟨cX,by simp⟩) fun r17 hi35=> ?_
 dsimp only[bc]at hi35
 exact au (show r17.q from(by first|exact q_ (by assumption) (by assumption)|(exfalso;exact yh (by assumption) (by omega)))) (aG hK1 (⟨r17.q⟩:cV))
 exfalso;exact dD
 refine az (fun m4=> ?_)
 refine iI (fun hi36=> ?_) (fun _=>rfl)
 refine iI (fun hc37=> ?_) (fun hc37=> ?_)
 refine iI (fun hc38=> ?_) (fun hc38=> ?_)
 refine aK ⟨⟩ ?_
 refine aL ?_
 exact hK0
 exfalso;exact dD
 refine aL (aL ?_)
 refine az (fun h15=> ?_)
 refine aL (aL (aL ?_))
 refine az (fun h16=> ?_)
 refine aL ?_
 refine dx (⟨⟨h15,([]:List aw),(0:Int),(0:Int),(0:Int),(0:Int),(0:Int),(0:Int),(0:Int),h16,([]:List ax)⟩⟩:cu) rfl (by(try dsimp only[bZ]);first|exact bx (by assumption) (by assumption) (by assumption) (by omega) hpre|exact⟨cW (by assumption),dQ (by assumption),(eW (by assumption)).2.1⟩|exact⟨cX,by simp,jS⟩) ?_
 refine aE ?_ ?_
 refine iI (p:=¬cB (⟨h15,([]:List aw),(0:Int),(0:Int),(0:Int),(0:Int),(0:Int),(0:Int),(0:Int),h16,([]:List ax)⟩:bN)) (fun hi39=> ?_) (fun _=>rfl)
 exfalso;exact dD
 refine aE ?_ ?_
 refine iI (p:=cB (⟨h15,([]:List aw),(0:Int),(0:Int),(0:Int),(0:Int),(0:Int),(0:Int),(0:Int),h16,([]:List ax)⟩:bN)∧65536<(cA (⟨h15,([]:List aw),(0:Int),(0:Int),(0:Int),(0:Int),(0:Int),(0:Int),(0:Int),h16,([]:List ax)⟩:bN)).length) (fun hi40=> ?_) (fun _=>rfl)
 exfalso;exact dD
 refine az (fun r18=> ?_)
 refine iI (p:=cB (⟨h15,([]:List aw),(0:Int),(0:Int),(0:Int),(0:Int),(0:Int),(0:Int),(0:Int),h16,([]:List ax)⟩:bN)∧r18.t=cA (⟨h15,([]:List aw),(0:Int),(0:Int),(0:Int),(0:Int),(0:Int),(0:Int),(0:Int),h16,([]:List ax)⟩:bN)∧r18.t.length≤65536) (fun hi41=> ?_) (fun _=>rfl)
 refine iI (fun hc42=> ?_) (fun hc42=> ?_)
 refine ay (⟨⟨h15,([]:List aw),(0:Int),(0:Int),(0:Int),(0:Int),(0:Int),(0:Int),(0:Int),h16,([]:List ax)⟩⟩:cv) rfl (by(try dsimp only[aZ]);first|exact⟨(bx (by assumption) (by assumption) (by assumption) (by omega) hpre).1,(bx (by assumption) (by assumption) (by assumption) (by omega) hpre).2.1⟩|exact⟨cW (by assumption),dQ (by assumption)⟩|exact⟨cX,by simp⟩) fun r19 hi43=> ?_
 dsimp only[bc]at hi43
 exact au (show r19.q from(by first|exact q_ (by assumption) (by assumption)|(exfalso;exact yh (by assumption) (by omega)))) (aG hK1 (⟨r19.q⟩:cV))
 exfalso;exact dD
 refine jE ?_
 refine aE ?_ ?_
 refine az (fun rd5=> ?_)
 refine iI (fun hi44=> ?_) (fun _=>rfl)
 refine iI (fun hc45=> ?_) (fun hc45=> ?_)
 refine iI (fun hc46=> ?_) (fun hc46=> ?_)
 exfalso;exact dD
 exfalso;exact dD
 refine aL ?_
 refine az (fun h17=> ?_)
 refine aL (aL ?_)
 refine az (fun h18=> ?_)
 refine aL ?_
 refine dx (⟨⟨h17,rd5.gs,rd5.clients,rd5.window,rd5.deadline,rd5.pace,rd5.again,rd5.bag,rd5.first,h18,rd5.os⟩⟩:cu) rfl (by(try dsimp only[bZ]);first|exact bx (by assumption) (by assumption) (by assumption) (by omega) hpre|exact⟨cW (by assumption),dQ (by assumption),(eW (by assumption)).2.1⟩|exact⟨cX,by simp,jS⟩) ?_
 refine aE ?_ ?_
 refine iI (p:=¬cB (⟨h17,rd5.gs,rd5.clients,rd5.window,rd5.deadline,rd5.pace,rd5.again,rd5.bag,rd5.first,h18,rd5.os⟩:bN)) (fun hi47=> ?_) (fun _=>rfl)
 exfalso;exact dD
 refine aE ?_ ?_
 refine iI (p:=cB (⟨h17,rd5.gs,rd5.clients,rd5.window,rd5.deadline,rd5.pace,rd5.again,rd5.bag,rd5.first,h18,rd5.os⟩:bN)∧65536<(cA (⟨h17,rd5.gs,rd5.clients,rd5.window,rd5.deadline,rd5.pace,rd5.again,rd5.bag,rd5.first,h18,rd5.os⟩:bN)).length) (fun hi48=> ?_) (fun _=>rfl)
 exfalso;exact dD
 refine az (fun r20=> ?_)
 refine iI (p:=cB (⟨h17,rd5.gs,rd5.clients,rd5.window,rd5.deadline,rd5.pace,rd5.again,rd5.bag,rd5.first,h18,rd5.os⟩:bN)∧r20.t=cA (⟨h17,rd5.gs,rd5.clients,rd5.window,rd5.deadline,rd5.pace,rd5.again,rd5.bag,rd5.first,h18,rd5.os⟩:bN)∧r20.t.length≤65536) (fun hi49=> ?_) (fun _=>rfl)
 refine iI (fun hc50=> ?_) (fun hc50=> ?_)
 refine ay (⟨⟨h17,rd5.gs,rd5.clients,rd5.window,rd5.deadline,rd5.pace,rd5.again,rd5.bag,rd5.first,h18,rd5.os⟩⟩:cv) rfl (by(try dsimp only[aZ]);first|exact⟨(bx (by assumption) (by assumption) (by assumption) (by omega) hpre).1,(bx (by assumption) (by assumption) (by assumption) (by omega) hpre).2.1⟩|exact⟨cW (by assumption),dQ (by assumption)⟩|exact⟨cX,by simp⟩) fun r21 hi51=> ?_
 dsimp only[bc]at hi51
 exact au (show r21.q from(by first|exact q_ (by assumption) (by assumption)|(exfalso;exact yh (by assumption) (by omega)))) (aG hK1 (⟨r21.q⟩:cV))
 exfalso;exact dD
 refine az (fun m5=> ?_)
 refine iI (fun hi52=> ?_) (fun _=>rfl)
 refine iI (fun hc53=> ?_) (fun hc53=> ?_)
 refine iI (fun hc54=> ?_) (fun hc54=> ?_)
 refine aK ⟨⟩ ?_
 refine aL ?_
 exact hK0
 exfalso;exact dD
 refine aL (aL ?_)
 refine az (fun h19=> ?_)
 refine aL (aL (aL ?_))
 refine az (fun h20=> ?_)
 refine aL ?_
 refine dx (⟨⟨h19,([]:List aw),(0:Int),(0:Int),(0:Int),(0:Int),(0:Int),(0:Int),(0:Int),h20,([]:List ax)⟩⟩:cu) rfl (by(try dsimp only[bZ]);first|exact bx (by assumption) (by assumption) (by assumption) (by omega) hpre|exact⟨cW (by assumption),dQ (by assumption),(eW (by assumption)).2.1⟩|exact⟨cX,by simp,jS⟩) ?_
 refine aE ?_ ?_
 refine iI (p:=¬cB (⟨h19,([]:List aw),(0:Int),(0:Int),(0:Int),(0:Int),(0:Int),(0:Int),(0:Int),h20,([]:List ax)⟩:bN)) (fun hi55=> ?_) (fun _=>rfl)
 exfalso;exact dD
 refine aE ?_ ?_
 refine iI (p:=cB (⟨h19,([]:List aw),(0:Int),(0:Int),(0:Int),(0:Int),(0:Int),(0:Int),(0:Int),h20,([]:List ax)⟩:bN)∧65536<(cA (⟨h19,([]:List aw),(0:Int),(0:Int),(0:Int),(0:Int),(0:Int),(0:Int),(0:Int),h20,([]:List ax)⟩:bN)).length) (fun hi56=> ?_) (fun _=>rfl)
 exfalso;exact dD
 refine az (fun r22=> ?_)
 refine iI (p:=cB (⟨h19,([]:List aw),(0:Int),(0:Int),(0:Int),(0:Int),(0:Int),(0:Int),(0:Int),h20,([]:List ax)⟩:bN)∧r22.t=cA (⟨h19,([]:List aw),(0:Int),(0:Int),(0:Int),(0:Int),(0:Int),(0:Int),(0:Int),h20,([]:List ax)⟩:bN)∧r22.t.length≤65536) (fun hi57=> ?_) (fun _=>rfl)
 refine iI (fun hc58=> ?_) (fun hc58=> ?_)
 refine ay (⟨⟨h19,([]:List aw),(0:Int),(0:Int),(0:Int),(0:Int),(0:Int),(0:Int),(0:Int),h20,([]:List ax)⟩⟩:cv) rfl (by(try dsimp only[aZ]);first|exact⟨(bx (by assumption) (by assumption) (by assumption) (by omega) hpre).1,(bx (by assumption) (by assumption) (by assumption) (by omega) hpre).2.1⟩|exact⟨cW (by assumption),dQ (by assumption)⟩|exact⟨cX,by simp⟩) fun r23 hi59=> ?_
 dsimp only[bc]at hi59
 exact au (show r23.q from(by first|exact q_ (by assumption) (by assumption)|(exfalso;exact yh (by assumption) (by omega)))) (aG hK1 (⟨r23.q⟩:cV))
 exfalso;exact dD
 refine az (fun r3=> ?_)
 refine iI (p:=cB r2.t∧r3.t=cA r2.t∧r3.t.length≤65536) (fun hi60=> ?_) (fun _=>rfl)
 refine aE (by simp[qL,qI,qS,qY,aC]) ?_
 refine ay (⟨r2.t⟩:cv) rfl (by(try dsimp only[aZ]);first|exact⟨(bx (by assumption) (by assumption) (by assumption) (by omega) hpre).1,(bx (by assumption) (by assumption) (by assumption) (by omega) hpre).2.1⟩|exact⟨cW (by assumption),dQ (by assumption)⟩|exact⟨cX,by simp⟩) fun r4 hi61=> ?_
 dsimp only[bc]at hi61
 refine iI (fun hc62=> ?_) (fun hc62=> ?_)
 refine jE ?_
 refine aE ?_ ?_
 refine az (fun rd1=> ?_)
 refine iI (fun hi63=> ?_) (fun _=>rfl)
 refine aL ?_
 refine az (fun h1=> ?_)
 refine aL (aL ?_)
 refine az (fun h2=> ?_)
 refine aL ?_
 refine iI (fun hc64=> ?_) (fun hc64=> ?_)
 exfalso;exact dD
 refine ay (⟨r2.t,⟨h1,rd1.gs,rd1.clients,rd1.window,rd1.deadline,rd1.pace,rd1.again,rd1.bag,rd1.first,h2,rd1.os⟩⟩:kE) rfl (by(try dsimp only[fZ]);first|exact⟨(bx (by assumption) (by assumption) (by assumption) (by omega) hpre).1,cW (by assumption),(bx (by assumption) (by assumption) (by assumption) (by omega) hpre).2.1,dQ (by assumption)⟩|exact⟨(bx (by assumption) (by assumption) (by assumption) (by omega) hpre).1,cX,(bx (by assumption) (by assumption) (by assumption) (by omega) hpre).2.1,by simp⟩) fun r5 hi65=> ?_
 dsimp only[dC]at hi65
 refine iI (fun hc66=> ?_) (fun hc66=> ?_)
 exfalso;exact dD
 refine jE ?_
 refine aE ?_ ?_
 refine az (fun rd2=> ?_)
 refine iI (fun hi67=> ?_) (fun _=>rfl)
 refine iI (fun hc68=> ?_) (fun hc68=> ?_)
 refine iI (fun hc69=> ?_) (fun hc69=> ?_)
 exfalso;exact dD
 exfalso;exact dD
 refine aL ?_
 refine az (fun h3=> ?_)
 refine aL (aL ?_)
 refine az (fun h4=> ?_)
 refine aL ?_
 refine dx (⟨⟨h3,rd2.gs,rd2.clients,rd2.window,rd2.deadline,rd2.pace,rd2.again,rd2.bag,rd2.first,h4,rd2.os⟩⟩:cu) rfl (by(try dsimp only[bZ]);first|exact bx (by assumption) (by assumption) (by assumption) (by omega) hpre|exact⟨cW (by assumption),dQ (by assumption),(eW (by assumption)).2.1⟩|exact⟨cX,by simp,jS⟩) ?_
 refine aE ?_ ?_
 refine iI (p:=¬cB (⟨h3,rd2.gs,rd2.clients,rd2.window,rd2.deadline,rd2.pace,rd2.again,rd2.bag,rd2.first,h4,rd2.os⟩:bN)) (fun hi70=> ?_) (fun _=>rfl)
 exfalso;exact dD
 refine aE ?_ ?_
 refine iI (p:=cB (⟨h3,rd2.gs,rd2.clients,rd2.window,rd2.deadline,rd2.pace,rd2.again,rd2.bag,rd2.first,h4,rd2.os⟩:bN)∧65536<(cA (⟨h3,rd2.gs,rd2.clients,rd2.window,rd2.deadline,rd2.pace,rd2.again,rd2.bag,rd2.first,h4,rd2.os⟩:bN)).length) (fun hi71=> ?_) (fun _=>rfl)
 exfalso;exact dD
 refine az (fun r6=> ?_)
 refine iI (p:=cB (⟨h3,rd2.gs,rd2.clients,rd2.window,rd2.deadline,rd2.pace,rd2.again,rd2.bag,rd2.first,h4,rd2.os⟩:bN)∧r6.t=cA (⟨h3,rd2.gs,rd2.clients,rd2.window,rd2.deadline,rd2.pace,rd2.again,rd2.bag,rd2.first,h4,rd2.os⟩:bN)∧r6.t.length≤65536) (fun hi72=> ?_) (fun _=>rfl)
 refine iI (fun hc73=> ?_) (fun hc73=> ?_)
 refine ay (⟨⟨h3,rd2.gs,rd2.clients,rd2.window,rd2.deadline,rd2.pace,rd2.again,rd2.bag,rd2.first,h4,rd2.os⟩⟩:cv) rfl (by(try dsimp only[aZ]);first|exact⟨(bx (by assumption) (by assumption) (by assumption) (by omega) hpre).1,(bx (by assumption) (by assumption) (by assumption) (by omega) hpre).2.1⟩|exact⟨cW (by assumption),dQ (by assumption)⟩|exact⟨cX,by simp⟩) fun r7 hi74=> ?_
 dsimp only[bc]at hi74
 exact au (show r7.q from(by first|exact q_ (by assumption) (by assumption)|(exfalso;exact yh (by assumption) (by omega)))) (aG hK1 (⟨r7.q⟩:cV))
 exfalso;exact dD
 refine az (fun m2=> ?_)
 refine iI (fun hi75=> ?_) (fun _=>rfl)
 refine iI (fun hc76=> ?_) (fun hc76=> ?_)
 refine iI (fun hc77=> ?_) (fun hc77=> ?_)
 refine aK ⟨⟩ ?_
 refine aL ?_
 exact hK0
 exfalso;exact dD
 refine aL (aL ?_)
 refine az (fun h5=> ?_)
 refine aL (aL (aL ?_))
 refine az (fun h6=> ?_)
 refine aL ?_
 refine dx (⟨⟨h5,([]:List aw),(0:Int),(0:Int),(0:Int),(0:Int),(0:Int),(0:Int),(0:Int),h6,([]:List ax)⟩⟩:cu) rfl (by(try dsimp only[bZ]);first|exact bx (by assumption) (by assumption) (by assumption) (by omega) hpre|exact⟨cW (by assumption),dQ (by assumption),(eW (by assumption)).2.1⟩|exact⟨cX,by simp,jS⟩) ?_
 refine aE ?_ ?_
 refine iI (p:=¬cB (⟨h5,([]:List aw),(0:Int),(0:Int),(0:Int),(0:Int),(0:Int),(0:Int),(0:Int),h6,([]:List ax)⟩:bN)) (fun hi78=> ?_) (fun _=>rfl)
 exfalso;exact dD
 refine aE ?_ ?_
 refine iI (p:=cB (⟨h5,([]:List aw),(0:Int),(0:Int),(0:Int),(0:Int),(0:Int),(0:Int),(0:Int),h6,([]:List ax)⟩:bN)∧65536<(cA (⟨h5,([]:List aw),(0:Int),(0:Int),(0:Int),(0:Int),(0:Int),(0:Int),(0:Int),h6,([]:List ax)⟩:bN)).length) (fun hi79=> ?_) (fun _=>rfl)
 exfalso;exact dD
 refine az (fun r8=> ?_)
 refine iI (p:=cB (⟨h5,([]:List aw),(0:Int),(0:Int),(0:Int),(0:Int),(0:Int),(0:Int),(0:Int),h6,([]:List ax)⟩:bN)∧r8.t=cA (⟨h5,([]:List aw),(0:Int),(0:Int),(0:Int),(0:Int),(0:Int),(0:Int),(0:Int),h6,([]:List ax)⟩:bN)∧r8.t.length≤65536) (fun hi80=> ?_) (fun _=>rfl)
 refine iI (fun hc81=> ?_) (fun hc81=> ?_)
 refine ay (⟨⟨h5,([]:List aw),(0:Int),(0:Int),(0:Int),(0:Int),(0:Int),(0:Int),(0:Int),h6,([]:List ax)⟩⟩:cv) rfl (by(try dsimp only[aZ]);first|exact⟨(bx (by assumption) (by assumption) (by assumption) (by omega) hpre).1,(bx (by assumption) (by assumption) (by assumption) (by omega) hpre).2.1⟩|exact⟨cW (by assumption),dQ (by assumption)⟩|exact⟨cX,by simp⟩) fun r9 hi82=> ?_
 dsimp only[bc]at hi82
 exact au (show r9.q from(by first|exact q_ (by assumption) (by assumption)|(exfalso;exact yh (by assumption) (by omega)))) (aG hK1 (⟨r9.q⟩:cV))
 exfalso;exact dD
 refine az (fun m1=> ?_)
 refine iI (fun hi83=> ?_) (fun _=>rfl)
 refine aL (aL ?_)
 refine az (fun h7=> ?_)
 refine aL (aL (aL ?_))
 refine az (fun h8=> ?_)
 refine aL ?_
 refine iI (fun hc84=> ?_) (fun hc84=> ?_)
 exfalso;exact dD
 refine ay (⟨r2.t,⟨h7,([]:List aw),(0:Int),(0:Int),(0:Int),(0:Int),(0:Int),(0:Int),(0:Int),h8,([]:List ax)⟩⟩:kE) rfl (by(try dsimp only[fZ]);first|exact⟨(bx (by assumption) (by assumption) (by assumption) (by omega) hpre).1,cW (by assumption),(bx (by assumption) (by assumption) (by assumption) (by omega) hpre).2.1,dQ (by assumption)⟩|exact⟨(bx (by assumption) (by assumption) (by assumption) (by omega) hpre).1,cX,(bx (by assumption) (by assumption) (by assumption) (by omega) hpre).2.1,by simp⟩) fun r10 hi85=> ?_
 dsimp only[dC]at hi85
 refine iI (fun hc86=> ?_) (fun hc86=> ?_)
 exfalso;exact dD
 refine jE ?_
 refine aE ?_ ?_
 refine az (fun rd3=> ?_)
 refine iI (fun hi87=> ?_) (fun _=>rfl)
 refine iI (fun hc88=> ?_) (fun hc88=> ?_)
 refine iI (fun hc89=> ?_) (fun hc89=> ?_)
 exfalso;exact dD
 exfalso;exact dD
 refine aL ?_
 refine az (fun h9=> ?_)
 refine aL (aL ?_)
 refine az (fun h10=> ?_)
 refine aL ?_
 refine dx (⟨⟨h9,rd3.gs,rd3.clients,rd3.window,rd3.deadline,rd3.pace,rd3.again,rd3.bag,rd3.first,h10,rd3.os⟩⟩:cu) rfl (by(try dsimp only[bZ]);first|exact bx (by assumption) (by assumption) (by assumption) (by omega) hpre|exact⟨cW (by assumption),dQ (by assumption),(eW (by assumption)).2.1⟩|exact⟨cX,by simp,jS⟩) ?_
 refine aE ?_ ?_
 refine iI (p:=¬cB (⟨h9,rd3.gs,rd3.clients,rd3.window,rd3.deadline,rd3.pace,rd3.again,rd3.bag,rd3.first,h10,rd3.os⟩:bN)) (fun hi90=> ?_) (fun _=>rfl)
 exfalso;exact dD
 refine aE ?_ ?_
 refine iI (p:=cB (⟨h9,rd3.gs,rd3.clients,rd3.window,rd3.deadline,rd3.pace,rd3.again,rd3.bag,rd3.first,h10,rd3.os⟩:bN)∧65536<(cA (⟨h9,rd3.gs,rd3.clients,rd3.window,rd3.deadline,rd3.pace,rd3.again,rd3.bag,rd3.first,h10,rd3.os⟩:bN)).length) (fun hi91=> ?_) (fun _=>rfl)
 exfalso;exact dD
 refine az (fun r11=> ?_)
 refine iI (p:=cB (⟨h9,rd3.gs,rd3.clients,rd3.window,rd3.deadline,rd3.pace,rd3.again,rd3.bag,rd3.first,h10,rd3.os⟩:bN)∧r11.t=cA (⟨h9,rd3.gs,rd3.clients,rd3.window,rd3.deadline,rd3.pace,rd3.again,rd3.bag,rd3.first,h10,rd3.os⟩:bN)∧r11.t.length≤65536) (fun hi92=> ?_) (fun _=>rfl)
 refine iI (fun hc93=> ?_) (fun hc93=> ?_)
 refine ay (⟨⟨h9,rd3.gs,rd3.clients,rd3.window,rd3.deadline,rd3.pace,rd3.again,rd3.bag,rd3.first,h10,rd3.os⟩⟩:cv) rfl (by(try dsimp only[aZ]);first|exact⟨(bx (by assumption) (by assumption) (by assumption) (by omega) hpre).1,(bx (by assumption) (by assumption) (by assumption) (by omega) hpre).2.1⟩|exact⟨cW (by assumption),dQ (by assumption)⟩|exact⟨cX,by simp⟩) fun r12 hi94=> ?_
 dsimp only[bc]at hi94
 exact au (show r12.q from(by first|exact q_ (by assumption) (by assumption)|(exfalso;exact yh (by assumption) (by omega)))) (aG hK1 (⟨r12.q⟩:cV))
 exfalso;exact dD
 refine az (fun m3=> ?_)
 refine iI (fun hi95=> ?_) (fun _=>rfl)
 refine iI (fun hc96=> ?_) (fun hc96=> ?_)
 refine iI (fun hc97=> ?_) (fun hc97=> ?_)
 refine aK ⟨⟩ ?_
 refine aL ?_
 exact hK0
 exfalso;exact dD
 refine aL (aL ?_)
 refine az (fun h11=> ?_)
 refine aL (aL (aL ?_))
 refine az (fun h12=> ?_)
 refine aL ?_
 refine dx (⟨⟨h11,([]:List aw),(0:Int),(0:Int),(0:Int),(0:Int),(0:Int),(0:Int),(0:Int),h12,([]:List ax)⟩⟩:cu) rfl (by(try dsimp only[bZ]);first|exact bx (by assumption) (by assumption) (by assumption) (by omega) hpre|exact⟨cW (by assumption),dQ (by assumption),(eW (by assumption)).2.1⟩|exact⟨cX,by simp,jS⟩) ?_
 refine aE ?_ ?_
 refine iI (p:=¬cB (⟨h11,([]:List aw),(0:Int),(0:Int),(0:Int),(0:Int),(0:Int),(0:Int),(0:Int),h12,([]:List ax)⟩:bN)) (fun hi98=> ?_) (fun _=>rfl)
 exfalso;exact dD
 refine aE ?_ ?_
 refine iI (p:=cB (⟨h11,([]:List aw),(0:Int),(0:Int),(0:Int),(0:Int),(0:Int),(0:Int),(0:Int),h12,([]:List ax)⟩:bN)∧65536<(cA (⟨h11,([]:List aw),(0:Int),(0:Int),(0:Int),(0:Int),(0:Int),(0:Int),(0:Int),h12,([]:List ax)⟩:bN)).length) (fun hi99=> ?_) (fun _=>rfl)
 exfalso;exact dD
 refine az (fun r13=> ?_)
 refine iI (p:=cB (⟨h11,([]:List aw),(0:Int),(0:Int),(0:Int),(0:Int),(0:Int),(0:Int),(0:Int),h12,([]:List ax)⟩:bN)∧r13.t=cA (⟨h11,([]:List aw),(0:Int),(0:Int),(0:Int),(0:Int),(0:Int),(0:Int),(0:Int),h12,([]:List ax)⟩:bN)∧r13.t.length≤65536) (fun hi100=> ?_) (fun _=>rfl)
 refine iI (fun hc101=> ?_) (fun hc101=> ?_)
 refine ay (⟨⟨h11,([]:List aw),(0:Int),(0:Int),(0:Int),(0:Int),(0:Int),(0:Int),(0:Int),h12,([]:List ax)⟩⟩:cv) rfl (by(try dsimp only[aZ]);first|exact⟨(bx (by assumption) (by assumption) (by assumption) (by omega) hpre).1,(bx (by assumption) (by assumption) (by assumption) (by omega) hpre).2.1⟩|exact⟨cW (by assumption),dQ (by assumption)⟩|exact⟨cX,by simp⟩) fun r14 hi102=> ?_
 dsimp only[bc]at hi102
 exact au (show r14.q from(by first|exact q_ (by assumption) (by assumption)|(exfalso;exact yh (by assumption) (by omega)))) (aG hK1 (⟨r14.q⟩:cV))
 exfalso;exact dD
 exfalso;exact dD
 refine aK ⟨⟩ ?_
 refine aL ?_
 exact hK0
theorem na_scriptBack:bR Tryz.prog 4 0 (bJ na (dr nv tT)):=(vK (f:=4) (k:=0) (cK Is) Bo (by rfl) (by rfl) GD)
end Go.Proofs.Tryz
