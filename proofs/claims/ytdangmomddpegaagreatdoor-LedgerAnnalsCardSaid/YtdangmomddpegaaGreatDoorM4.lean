/- Definitions and lemmas of the proof, without a condition of their own. -/
import Derived.Test.YtdangmomddpegaaGreatDoorM3
import Derived.KernelRfl
open List renaming length_append→acC,length_cons→acD,length_nil→acF,map_append→acR,map_cons→acJ,mem_of_getElem?→acH
open Option.some renaming inj→ac1
namespace Go.Proofs.Tryz
open Go.Proofs.YtdangmomddpegaaGreatDoor (xU uM uL BM xT uK xW BL xV BK xS uN)
open Go Go.RowKit Go.Sy
open Go.Eng hiding aA
set_option maxRecDepth 1000000
set_option linter.unusedVariables false
set_option maxHeartbeats 4000000
theorem aV {α:Type} {P Q:α→Prop} {K:α→Bool} (h:(aA fun r=>iP (P r) (K r) true)=true) (hw:∀r,Q r→P r):(aA fun r=>iP (Q r) (K r) true)=true:=aB fun r=>iI (fun hz=>aP (hw r hz) (aF h r)) (fun _=>rfl)
def FO:XC:=(.aft (.seq (.seq (g_ 12 [p_ 0 5 (m_ 4),p_ 1 6 (m_ 0),p_ 2 7 (k_ 6),p_ 3 8 (.bin 3 0 (.t 5) (.t 7)),p_ 4 9 (m_ 8),aK 5 10 9 true (m_ 4),aK 6 11 9 true (.bin 3 0 (.t 10) (i_ 300)),p_ 7 12 (.pick (.t 9) (.t 11) (.c (.bool false))),p_ 8 13 (m_ 12),aK 9 14 13 true (m_ 3),aK 10 15 13 true (.bin 3 3 (.t 14) (i_ 0)),p_ 11 16 (.pick (.t 13) (.t 15) (.c (.bool false)))]) (.cond (.t 16) .skip (.exit 2))) (.seq (.block 3 (h_ 19 [p_ 0 19 (m_ 3),p_ 1 20 (.bin 0 1 (.t 19) (i_ 3)),p_ 2 21 (m_ 0),p_ 3 22 (m_ 4),p_ 4 23 (.ixs 5 (.t 21) (.t 22)),p_ 5 24 (f_ 2 23),r_ 6 25 (l_ 24),p_ 7 26 (.len 0 (.t 25)),p_ 8 27 (.mx false (.t 26) (i_ 4000)),p_ 9 28 (.bin 0 1 (.t 20) (.t 27)),p_ 10 29 (m_ 0),p_ 11 30 (m_ 4),p_ 12 31 (.ixs 5 (.t 29) (.t 30)),p_ 13 32 (f_ 3 31),r_ 14 33 (l_ 32),p_ 15 34 (.len 0 (.t 33)),p_ 16 35 (.mx false (.t 34) (i_ 4000)),p_ 17 36 (.bin 0 1 (.t 28) (.t 35)),p_ 18 3 (m_ 36)])) (g_ 3 [p_ 0 17 (m_ 4),p_ 1 18 (.bin 0 0 (.t 17) (i_ 1)),p_ 2 4 (m_ 18)]))) [(0,[.can 0 [0,3,4]]),(2,[.can 0 [3]])])
def TD:XF:=.mk 39 (.one 2) (.seq (g_ 1 [p_ 0 2 (.mv (.c (.bool false)))]) (.seq (g_ 1 [p_ 0 3 (.mv (i_ 3000))]) (.seq (.seq (g_ 1 [p_ 0 4 (.mv (i_ 0))]) (.block 2 (.pre [.can 0 [0,3,4],.up 3,.up 4,.can 0 [0,3,4]] (.inv 0 FO)))) (.seq (g_ 3 [p_ 0 37 (m_ 3),p_ 1 38 (.bin 3 3 (.t 37) (i_ 0)),p_ 2 2 (m_ 38)]) .ret))))
theorem TC:bT Tryz.prog 13 TD=true:=by kernel_rfl
structure jc where
 h:Value
 l:List aW
 left:Int
 i:Int
structure Je where
 left:Int
def oC (p:jc) (r:Je):Prop:=(-9000≤r.left∧r.left≤3000)∧(0≤r.left→p.l.length≤300→∀x∈p.l,qz x)
noncomputable def nD (p:jc):IL:=((.cons 4 (.sy (.int 0 p.i)) (.cons 3 (.sy (.int 0 p.left)) (.cons 0 (.sy (.imm p.h 5 aW p.l encP)) .nil))),.leaf,0)
noncomputable def vO (p:jc) (K:KC):Bool:=aA fun r:Je=>iP (oC p r) (K 2 (.cons 3 (.sy (.int 0 r.left)) .nil) .leaf 0) true
def lW (p:jc):Prop:= -9000≤p.left∧p.left≤3000∧0≤p.i∧p.i≤(p.l.length:Int)∧(0≤p.left→∀(j:Nat) y,(j:Int)<p.i→p.l[j]?=some y→qz y)∧p.i≤300
theorem BW {p:jc} {K:KC} (hK:vO p K=true) (r:Je) (h:oC p r):K 2 (.cons 3 (.sy (.int 0 r.left)) .nil) .leaf 0=true:=aP h (aF hK r)
noncomputable def yB (p:jc) (K:KC):Bool:=ac (au (lW p)) (vO p K)
noncomputable def GQ:ft:=fun j S M nx K=>(Bool.rec (false) (aI fun p:jc=>ac (au ((S,M,nx)=nD p)) (yB p K)) (Nat.beq j 0))
def kM (p:jc):Nat:=((p.l.length:Int) - p.i).toNat
noncomputable def Np (s:IL) (n:Nat) (K:KC):Bool:=aI fun q=>mP (s=nD q∧kM q<n) (yB q K)
theorem Wg {p q:jc} {K:KC} {s:IL} (hm:kM q<kM p:=by dsimp only[kM]<;>(omega)) (hp:lW q:=by dsimp only[lW]<;>(have e:=ac1 ((by assumption:p.l[p.i.toNat]?=some x1).symm.trans (by assumption:p.l[p.i.toNat]?=some x2));subst e;exact⟨by omega,by omega,by omega,by omega,fun z=>vd (g4 (by omega)) (by omega) (by assumption:p.l[p.i.toNat]?=some x1) (by unfold qz;omega),by omega⟩)) (hK:vO q K=true:=by exact hK) (e:s=nD q:=by rfl):Np s (kM p) K=true:=aG q (bf ⟨e,hm⟩ (bf hp hK))
theorem Uz (p:jc) (K:KC) (hpre:lW p) (hK:vO p K=true):(cQ (bH vZ) GQ 600 FO (nD p).1 (nD p).2.1 (nD p).2.2 (fun e S M nx=>Nat.casesOn e (aI fun q:jc=>ac (au ((S,M,nx)=nD q∧kM q<kM p)) (yB q K)) (fun e2=>K (Nat.succ e2) S M nx)))=true:=by
 refine Eq.trans (b:=(let z0:Bool:=(K 2 (.cons 3 (.sy (.int 0 p.left)) .nil) .leaf 0);iP (p.i<(p.l.length:Int)) (iP (p.i<(300:Int)) (iP ((0:Int)≤p.left) (mP (aL 0 (p.left - (3:Int))) (mP (0≤p.i∧p.i<(p.l.length:Int)) (aA fun x1:aW=>iP (p.l[p.i.toNat]?=some x1) (mP (aL 0 ((p.left - (3:Int)) - (min (x1.key.length:Int) (4000:Int)))) (mP (0≤p.i∧p.i<(p.l.length:Int)) (aA fun x2:aW=>iP (p.l[p.i.toNat]?=some x2) (mP (aL 0 (((p.left - (3:Int)) - (min (x1.key.length:Int) (4000:Int))) - (min (x2.val.length:Int) (4000:Int)))) (mP (aL 0 (p.i+(1:Int))) (Np ((.cons 4 (.sy (.int 0 (p.i+(1:Int)))) (.cons 3 (.sy (.int 0 (((p.left - (3:Int)) - (min (x1.key.length:Int) (4000:Int))) - (min (x2.val.length:Int) (4000:Int))))) (.cons 0 (.sy (.imm p.h 5 aW p.l encP)) .nil))),.leaf,0) (kM p) K))) true))) true))) z0) z0) z0)) (by kernel_rfl) ?_
 dsimp only[lW]at hpre
 obtain⟨g0,g1,g2,g3,g4,g5⟩:=hpre
 refine iI (fun hc1=> ?_) (fun hc1=> ?_)
 refine iI (fun hc2=> ?_) (fun hc2=> ?_)
 refine iI (fun hc3=> ?_) (fun hc3=> ?_)
 refine aN (dL ?_)
 refine aB (fun x1=> ?_)
 refine iI (fun hi4=> ?_) (fun _=>rfl)
 refine aN (dL ?_)
 refine aB (fun x2=> ?_)
 refine iI (fun hi5=> ?_) (fun _=>rfl)
 refine aN (aN ?_)
 exact Wg (q:=⟨p.h,p.l,((p.left - (3:Int)) - (min (x1.key.length:Int) (4000:Int))) - (min (x2.val.length:Int) (4000:Int)),p.i+(1:Int)⟩)
 exact BW hK ⟨p.left⟩ (by dsimp only[oC]<;>exact⟨by omega,fun z z2=>ra (g4 z) (by omega)⟩)
 exact BW hK ⟨p.left⟩ (by dsimp only[oC]<;>exact⟨by omega,fun z z2=>ra (g4 z) (by omega)⟩)
 exact BW hK ⟨p.left⟩ (by dsimp only[oC]<;>exact⟨by omega,fun z z2=>ra (g4 z) (by omega)⟩)
theorem Vv:dI Tryz.prog 39 0 GQ true 0 FO:=by
 exact dM (lf:=600) bv (aT uI) (by rfl) nD kM yB (fun b j x h=>by cases h) (fun S M nx K h=>by obtain⟨p,h⟩:=bL h;exact⟨p,(aa h).1,(aa h).2⟩) (fun p K h=>Uz p K (aa h).1 (aa h).2)
structure tJ where
 h:Value
 l:List aW
structure HF where
 q:Prop
def ul (p:tJ) (r:HF):Prop:=r.q→p.l.length≤300→∀x∈p.l,qz x
noncomputable def DH (p:tJ):IE:=([.sy (.imm p.h 5 aW p.l encP)],.leaf,0)
noncomputable def Ij (p:tJ) (K:KE):Bool:=aA fun r:HF=>iP (ul p r) (K (.sy (.bool r.q)) .leaf 0) true
theorem Yt {p:tJ} {K:KE} (hK:Ij p K=true) (r:HF) (h:ul p r):K (.sy (.bool r.q)) .leaf 0=true:=aP h (aF hK r)
theorem YT (p:tJ) (K:KE) (hK:Ij p K=true):(bZ 0 (bH vZ) GQ 600 TD (DH p).1 (DH p).2.1 (DH p).2.2 K)=true:=by
 refine Eq.trans (b:=(aX (((.cons 4 (.sy (.int 0 0)) (.cons 3 (.sy (.int 0 3000)) (.cons 0 (.sy (.imm p.h 5 aW p.l encP)) .nil))),.leaf,0)) nD lW oC fun p1 r1=>K (.sy (.bool ((0:Int)≤r1.left))) .leaf 0)) (by kernel_rfl) ?_
 refine aJ (⟨p.h,p.l,(3000:Int),(0:Int)⟩:jc) rfl (by(try dsimp only[lW]);exact⟨by omega,by omega,by omega,by omega,fun _ j y h1 h2=>by omega,by omega⟩) fun r1 hi1=> ?_
 dsimp only[oC]at hi1
 exact Yt hK ⟨(0:Int)≤r1.left⟩ (by dsimp only[ul]<;>exact hi1.2)
noncomputable def CY:=bM vZ 0 (ce DH Ij) 13 [(0,23)]
theorem zI:be Tryz.prog CY:=aY (bV (f:=13) (k:=0) (lp:=GQ) (lf:=600) bv (aT uI) TC (by rfl) (fun b j x h=>(cd Vv (fun h=>(by cases h)) h)) fun p K h=>YT p K h) uI
def FN:XC:=(.aft (.seq (.seq (g_ 5 [p_ 0 49 (m_ 6),p_ 1 50 (f_ 15 5),r_ 2 51 (l_ 50),p_ 3 52 (k_ 51),p_ 4 53 (.bin 3 0 (.t 49) (.t 52))]) (.cond (.t 53) .skip (.exit 4))) (.seq (.block 5 (h_ 21 [p_ 0 56 (m_ 3),p_ 1 57 (.bin 0 1 (.t 56) (i_ 1)),p_ 2 58 (f_ 15 5),r_ 3 59 (l_ 58),p_ 4 60 (m_ 6),p_ 5 61 (.ixs 3 (.t 59) (.t 60)),p_ 6 62 (f_ 0 61),r_ 7 63 (l_ 62),p_ 8 64 (.len 0 (.t 63)),p_ 9 65 (.mx false (.t 64) (i_ 7000)),p_ 10 66 (.bin 0 1 (.t 57) (.t 65)),p_ 11 67 (f_ 15 5),r_ 12 68 (l_ 67),p_ 13 69 (m_ 6),p_ 14 70 (.ixs 3 (.t 68) (.t 69)),p_ 15 71 (f_ 1 70),r_ 16 72 (l_ 71),p_ 17 73 (.len 0 (.t 72)),p_ 18 74 (.mx false (.t 73) (i_ 7000)),p_ 19 75 (.bin 0 1 (.t 66) (.t 74)),p_ 20 3 (m_ 75)])) (g_ 3 [p_ 0 54 (m_ 6),p_ 1 55 (.bin 0 0 (.t 54) (i_ 1)),p_ 2 6 (m_ 55)]))) [(0,[.can 0 [0,3,4,5,6]]),(4,[.can 0 [0,3,4]])])
def TB:XF:=.mk 83 (.one 2) (.aft (.seq (g_ 1 [p_ 0 2 (.mv (.c (.bool false)))]) (.seq (g_ 1 [p_ 0 3 (.mv (i_ 6000))]) (.seq (.seq (g_ 1 [p_ 0 4 (.mv (i_ 0))]) (.block 2 (.loop [0,2,3,4,5,6,7,8,9,10,11,12,13,14,15,16,17,18,19,20,21,22,23,24,25,26,27,28,29,30,31,32,33,34,35,36,37,38,39,40,41,42,43,44,45,46,47,48,49,50,51,52,53,54,55,56,57,58,59,60,61,62,63,64,65,66,67,68,69,70,71,72,73,74,75,76,77,78,79,80,81,82] (.seq (.seq (g_ 12 [p_ 0 7 (m_ 4),p_ 1 8 (m_ 0),p_ 2 9 (k_ 8),p_ 3 10 (.bin 3 0 (.t 7) (.t 9)),p_ 4 11 (m_ 10),aK 5 12 11 true (m_ 4),aK 6 13 11 true (.bin 3 0 (.t 12) (i_ 200)),p_ 7 14 (.pick (.t 11) (.t 13) (.c (.bool false))),p_ 8 15 (m_ 14),aK 9 16 15 true (m_ 3),aK 10 17 15 true (.bin 3 3 (.t 16) (i_ 0)),p_ 11 18 (.pick (.t 15) (.t 17) (.c (.bool false)))]) (.cond (.t 18) .skip (.exit 2))) (.seq (.block 3 (.seq (g_ 6 [p_ 0 21 (m_ 0),p_ 1 22 (m_ 4),p_ 2 23 (.ixs 18 (.t 21) (.t 22)),r_ 3 24 (.ld true 18 (.t 23)),e_ 4 5 (.al 62 [.int 1 (.ofNat 0),.int 1 (.ofNat 0),.int 2 (.ofNat 0),.int 3 (.ofNat 0),.int 1 (.ofNat 0),.int 1 (.ofNat 0),.int 1 (.ofNat 0),.int 1 (.ofNat 0),.int 1 (.ofNat 0),.int 1 (.ofNat 0),.int 1 (.ofNat 0),.int 3 (.ofNat 0),.nilS,.int 1 (.ofNat 0),.str [],.nilS,.int 1 (.ofNat 0),.int 2 (.ofNat 0)]),cA 5 (.st 18 (.t 5) (.t 24))]) (.seq (.seq (g_ 10 [p_ 0 25 (f_ 12 5),r_ 1 26 (l_ 25),c_ 2 27 13 [.t 26],p_ 3 28 (.un 0 (.t 27)),p_ 4 29 (m_ 28),aK 5 30 29 false (f_ 15 5),bU 6 31 29 false (l_ 30),aK 7 32 29 false (k_ 31),aK 8 33 29 false (.bin 3 2 (.t 32) (i_ 300)),p_ 9 34 (.pick (.t 29) (.c (.bool true)) (.t 33))]) (.cond (.t 34) (.seq (g_ 1 [p_ 0 2 (.mv (.c (.bool false)))]) .ret) .skip)) (.seq (g_ 15 [p_ 0 35 (m_ 3),p_ 1 36 (.bin 0 1 (.t 35) (i_ 10)),p_ 2 37 (f_ 13 5),p_ 3 38 (f_ 1 37),r_ 4 39 (l_ 38),p_ 5 40 (.len 0 (.t 39)),p_ 6 41 (.mx false (.t 40) (i_ 7000)),p_ 7 42 (.bin 0 1 (.t 36) (.t 41)),p_ 8 43 (f_ 12 5),r_ 9 44 (l_ 43),p_ 10 45 (k_ 44),p_ 11 46 (.mx false (.t 45) (i_ 200)),p_ 12 47 (.bin 0 2 (i_ 30) (.t 46)),p_ 13 48 (.bin 0 1 (.t 42) (.t 47)),p_ 14 3 (m_ 48)]) (.seq (g_ 1 [p_ 0 6 (.mv (i_ 0))]) (.block 4 (.pre [.can 0 [0,3,4,5,6],.up 3,.up 6,.can 0 [0,3,4,5,6]] (.inv 0 FN)))))))) (g_ 3 [p_ 0 19 (m_ 4),p_ 1 20 (.bin 0 0 (.t 19) (i_ 1)),p_ 2 4 (m_ 20)])))))) (.seq (g_ 8 [p_ 0 76 (m_ 3),p_ 1 77 (.bin 3 3 (.t 76) (i_ 0)),p_ 2 78 (m_ 77),aK 3 79 78 true (m_ 0),aK 4 80 78 true (k_ 79),aK 5 81 78 true (.bin 3 1 (.t 80) (i_ 150)),p_ 6 82 (.pick (.t 78) (.t 81) (.c (.bool false))),p_ 7 2 (m_ 82)]) .ret)))) [(0,[.up 2]),(1,[.up 2])])
theorem TA:bT Tryz.prog 14 TB=true:=by kernel_rfl
structure jb where
 e:ai
 left:Int
 k:Int
structure Jd where
 left:Int
def qN (p:jb) (r:Jd):Prop:= -5000000≤r.left∧r.left≤p.left
noncomputable def nC (p:jb):IL:=((.cons 6 (.sy (.int 0 p.k)) (.cons 5 (.ptr 1 0) (.cons 4 (.int 0 (.ofNat 0)) (.cons 3 (.sy (.int 0 p.left)) (.cons 0 (.sl 0 0 1 (.ex 1)) .nil))))),(.node (.node .leaf (some (.blk false 62 18 [(br p.e)])) .leaf) (some (.blk false 62 18 [(br p.e)])) .leaf),2)
noncomputable def vN (p:jb) (K:KC):Bool:=aA fun r:Jd=>iP (qN p r) (K 4 (.cons 4 (.int 0 (.ofNat 0)) (.cons 3 (.sy (.int 0 r.left)) (.cons 0 (.sl 0 0 1 (.ex 1)) .nil))) (.node .leaf (some (.blk false 62 18 [(br p.e)])) .leaf) 1) true
def lV (p:jb):Prop:= -30000 - 15000*p.k≤p.left∧p.left≤6000∧0≤p.k∧p.k≤(p.e.ws.length:Int)∧p.e.ws.length≤300
theorem TN {p:jb} {K:KC} (hK:vN p K=true) (r:Jd) (h:qN p r):K 4 (.cons 4 (.int 0 (.ofNat 0)) (.cons 3 (.sy (.int 0 r.left)) (.cons 0 (.sl 0 0 1 (.ex 1)) .nil))) (.node .leaf (some (.blk false 62 18 [(br p.e)])) .leaf) 1=true:=aP h (aF hK r)
noncomputable def yA (p:jb) (K:KC):Bool:=ac (au (lV p)) (vN p K)
noncomputable def GP:ft:=fun j S M nx K=>(Bool.rec (false) (aI fun p:jb=>ac (au ((S,M,nx)=nC p)) (yA p K)) (Nat.beq j 0))
def kL (p:jb):Nat:=((p.e.ws.length:Int) - p.k).toNat
noncomputable def No (s:IL) (n:Nat) (K:KC):Bool:=aI fun q=>mP (s=nC q∧kL q<n) (yA q K)
theorem Wf {p q:jb} {K:KC} {s:IL} (hm:kL q<kL p:=by dsimp only[kL]<;>(omega)) (hp:lV q:=by dsimp only[lV]<;>(omega)) (hK:vN q K=true:=by exact(aV hK fun r hz=>by dsimp only[qN]at hz ⊢;omega)) (e:s=nC q:=by rfl):No s (kL p) K=true:=aG q (bf ⟨e,hm⟩ (bf hp hK))
theorem Uy (p:jb) (K:KC) (hpre:lV p) (hK:vN p K=true):(cQ (bH CY) GP 600 FN (nC p).1 (nC p).2.1 (nC p).2.2 (fun e S M nx=>Nat.casesOn e (aI fun q:jb=>ac (au ((S,M,nx)=nC q∧kL q<kL p)) (yA q K)) (fun e2=>K (Nat.succ e2) S M nx)))=true:=by
 refine Eq.trans (b:=(iP (p.k<(p.e.ws.length:Int)) (mP (aL 0 (p.left - (1:Int))) (mP (0≤p.k∧p.k<(p.e.ws.length:Int)) (aA fun x1:bg=>iP (p.e.ws[p.k.toNat]?=some x1) (mP (aL 0 ((p.left - (1:Int)) - (min (x1.key.length:Int) (7000:Int)))) (mP (0≤p.k∧p.k<(p.e.ws.length:Int)) (aA fun x2:bg=>iP (p.e.ws[p.k.toNat]?=some x2) (mP (aL 0 (((p.left - (1:Int)) - (min (x1.key.length:Int) (7000:Int))) - (min (x2.val.length:Int) (7000:Int)))) (mP (aL 0 (p.k+(1:Int))) (No ((.cons 6 (.sy (.int 0 (p.k+(1:Int)))) (.cons 5 (.ptr 1 0) (.cons 4 (.int 0 (.ofNat 0)) (.cons 3 (.sy (.int 0 (((p.left - (1:Int)) - (min (x1.key.length:Int) (7000:Int))) - (min (x2.val.length:Int) (7000:Int))))) (.cons 0 (.sl 0 0 1 (.ex 1)) .nil))))),(.node (.node .leaf (some (.blk false 62 18 [(br p.e)])) .leaf) (some (.blk false 62 18 [(br p.e)])) .leaf),2) (kL p) K))) true))) true))) (K 4 (.cons 4 (.int 0 (.ofNat 0)) (.cons 3 (.sy (.int 0 p.left)) (.cons 0 (.sl 0 0 1 (.ex 1)) .nil))) (.node .leaf (some (.blk false 62 18 [(br p.e)])) .leaf) 1))) (by kernel_rfl) ?_
 dsimp only[lV]at hpre
 obtain⟨g0,g1,g2,g3,g4⟩:=hpre
 refine iI (fun hc1=> ?_) (fun hc1=> ?_)
 refine aN (dL ?_)
 refine aB (fun x1=> ?_)
 refine iI (fun hi2=> ?_) (fun _=>rfl)
 refine aN (dL ?_)
 refine aB (fun x2=> ?_)
 refine iI (fun hi3=> ?_) (fun _=>rfl)
 refine aN (aN ?_)
 exact Wf (q:=⟨p.e,((p.left - (1:Int)) - (min (x1.key.length:Int) (7000:Int))) - (min (x2.val.length:Int) (7000:Int)),p.k+(1:Int)⟩)
 exact TN hK ⟨p.left⟩ (by dsimp only[qN]<;>omega)
theorem Vu:dI Tryz.prog 83 0 GP true 0 FN:=by
 exact dM (lf:=600) bv (aT zI) (by rfl) nC kL yA (fun b j x h=>by cases h) (fun S M nx K h=>by obtain⟨p,h⟩:=bL h;exact⟨p,(aa h).1,(aa h).2⟩) (fun p K h=>Uy p K (aa h).1 (aa h).2)
structure AI where
 e:ai
structure KZ where
 q:Prop
def sg (p:AI) (r:KZ):Prop:=r.q→dU p.e
noncomputable def HK (p:AI):IE:=([.sl 0 0 1 (.ex 1)],(.node .leaf (some (.blk false 62 18 [(br p.e)])) .leaf),1)
noncomputable def Ii (p:AI) (K:KE):Bool:=aA fun r:KZ=>iP (sg p r) (K (.sy (.bool r.q)) .leaf 0) true
theorem Dn {p:AI} {K:KE} (hK:Ii p K=true) (r:KZ) (h:sg p r):K (.sy (.bool r.q)) .leaf 0=true:=aP h (aF hK r)
theorem YS (p:AI) (K:KE) (hK:Ii p K=true):(bZ 0 (bH CY) GP 600 TB (HK p).1 (HK p).2.1 (HK p).2.2 K)=true:=by
 refine Eq.trans (b:=(let z0:Bool:=(K (.sy (.bool (false=true))) .leaf 0);aI fun p1:tJ=>mP (([.sy (.imm p.e.hp 5 aW p.e.ps encP)],.leaf,0)=DH p1) (aA fun r1:HF=>iP (ul p1 r1) (iP (¬r1.q) z0 (iP ((300:Int)<(p.e.ws.length:Int)) z0 (mP (aL 0 ((5990:Int) - (min (p.e.rv.length:Int) (7000:Int)))) (mP (aL 0 ((30:Int)*(min (p.e.ps.length:Int) (200:Int)))) (mP (aL 0 (((5990:Int) - (min (p.e.rv.length:Int) (7000:Int))) - ((30:Int)*(min (p.e.ps.length:Int) (200:Int))))) (aX (((.cons 6 (.sy (.int 0 0)) (.cons 5 (.ptr 1 0) (.cons 4 (.int 0 (.ofNat 0)) (.cons 3 (.sy (.int 0 (((5990:Int) - (min (p.e.rv.length:Int) (7000:Int))) - ((30:Int)*(min (p.e.ps.length:Int) (200:Int)))))) (.cons 0 (.sl 0 0 1 (.ex 1)) .nil))))),(.node (.node .leaf (some (.blk false 62 18 [(br p.e)])) .leaf) (some (.blk false 62 18 [(br p.e)])) .leaf),2)) nC lV qN fun p2 r2=>iP ((0:Int)≤r2.left) (K (.sy (.bool (true=true))) .leaf 0) z0)))))) true))) (by kernel_rfl) ?_
 refine qh (⟨p.e.hp,p.e.ps⟩:tJ) rfl fun r1 hi1=> ?_
 dsimp only[ul]at hi1
 refine iI (fun hc2=> ?_) (fun hc2=> ?_)
 exact Dn hK ⟨false=true⟩ (by dsimp only[sg]<;>(first|(intro z;cases z;done)|(intro z;refine⟨⟨by omega,(by assumption:_→_→∀x∈p.e.ps,qz x) (by first|assumption|exact Classical.not_not.1 (by assumption)) (by omega)⟩,by omega⟩)))
 refine iI (fun hc3=> ?_) (fun hc3=> ?_)
 exact Dn hK ⟨false=true⟩ (by dsimp only[sg]<;>(first|(intro z;cases z;done)|(intro z;refine⟨⟨by omega,(by assumption:_→_→∀x∈p.e.ps,qz x) (by first|assumption|exact Classical.not_not.1 (by assumption)) (by omega)⟩,by omega⟩)))
 refine aN (aN (aN ?_))
 refine aJ (⟨p.e,((5990:Int) - (min (p.e.rv.length:Int) (7000:Int))) - ((30:Int)*(min (p.e.ps.length:Int) (200:Int))),(0:Int)⟩:jb) rfl (by(try dsimp only[lV]);omega) fun r2 hi4=> ?_
 dsimp only[qN]at hi4
 refine iI (fun hc5=> ?_) (fun hc5=> ?_)
 exact Dn hK ⟨true=true⟩ (by dsimp only[sg]<;>(first|(intro z;cases z;done)|(intro z;refine⟨⟨by omega,(by assumption:_→_→∀x∈p.e.ps,qz x) (by first|assumption|exact Classical.not_not.1 (by assumption)) (by omega)⟩,by omega⟩)))
 exact Dn hK ⟨false=true⟩ (by dsimp only[sg]<;>(first|(intro z;cases z;done)|(intro z;refine⟨⟨by omega,(by assumption:_→_→∀x∈p.e.ps,qz x) (by first|assumption|exact Classical.not_not.1 (by assumption)) (by omega)⟩,by omega⟩)))
noncomputable def CX:=bM CY 0 (ce HK Ii) 14 [(0,5)]
theorem zH:be Tryz.prog CX:=aY (bV (f:=14) (k:=0) (lp:=GP) (lf:=600) bv (aT zI) TA (by rfl) (fun b j x h=>(cd Vu (fun h=>(by cases h)) h)) fun p K h=>YS p K h) zI
def Cq:XC:=(.aft (.seq (.seq (g_ 8 [p_ 0 5 (m_ 3),p_ 1 6 (m_ 0),p_ 2 7 (k_ 6),p_ 3 8 (.bin 3 0 (.t 5) (.t 7)),p_ 4 9 (m_ 8),aK 5 10 9 true (m_ 3),aK 6 11 9 true (.bin 3 0 (.t 10) (i_ 100)),p_ 7 12 (.pick (.t 9) (.t 11) (.c (.bool false)))]) (.cond (.t 12) .skip (.exit 2))) (.seq (.block 3 (.seq (g_ 6 [p_ 0 15 (m_ 0),p_ 1 16 (m_ 3),p_ 2 17 (.ixs 74 (.t 15) (.t 16)),r_ 3 18 (.ld true 74 (.t 17)),e_ 4 4 (.al 64 [.int 0 (.ofNat 0),.int 0 (.ofNat 0),.int 1 (.ofNat 0),.int 1 (.ofNat 0),.int 2 (.ofNat 0),.int 3 (.ofNat 0),.int 1 (.ofNat 0),.int 1 (.ofNat 0),.int 1 (.ofNat 0),.int 1 (.ofNat 0),.int 1 (.ofNat 0),.int 1 (.ofNat 0),.int 1 (.ofNat 0),.int 1 (.ofNat 0),.int 0 (.ofNat 0),.int 0 (.ofNat 0),.nilS,.int 1 (.ofNat 0),.int 2 (.ofNat 0),.int 3 (.ofNat 0),.int 1 (.ofNat 0),.int 1 (.ofNat 0),.int 1 (.ofNat 0),.int 1 (.ofNat 0),.int 1 (.ofNat 0),.int 1 (.ofNat 0),.int 1 (.ofNat 0),.int 1 (.ofNat 0),.int 0 (.ofNat 0),.int 0 (.ofNat 0),.int 0 (.ofNat 0),.int 0 (.ofNat 0),.int 1 (.ofNat 0),.str [],.int 1 (.ofNat 0),.int 2 (.ofNat 0),.int 1 (.ofNat 0),.int 2 (.ofNat 0),.int 3 (.ofNat 0),.int 1 (.ofNat 0),.int 1 (.ofNat 0),.int 1 (.ofNat 0),.int 1 (.ofNat 0),.int 1 (.ofNat 0),.int 1 (.ofNat 0),.int 1 (.ofNat 0),.int 1 (.ofNat 0),.str [],.int 1 (.ofNat 0),.int 3 (.ofNat 0),.nilS,.int 1 (.ofNat 0),.int 2 (.ofNat 0),.int 1 (.ofNat 0),.int 3 (.ofNat 0),.nilS,.int 1 (.ofNat 0),.int 1 (.ofNat 0),.int 2 (.ofNat 0),.int 3 (.ofNat 0),.int 1 (.ofNat 0),.int 1 (.ofNat 0),.int 1 (.ofNat 0),.int 1 (.ofNat 0),.int 1 (.ofNat 0),.int 1 (.ofNat 0),.int 1 (.ofNat 0),.int 3 (.ofNat 0),.nilS,.int 1 (.ofNat 0),.str [],.nilS,.int 1 (.ofNat 0),.int 2 (.ofNat 0)]),cA 5 (.st 74 (.t 4) (.t 18))]) (.seq (g_ 42 [p_ 0 19 (f_ 3 4),p_ 1 20 (f_ 13 19),r_ 2 21 (l_ 20),c_ 3 22 13 [.t 21],p_ 4 23 (.un 0 (.t 22)),p_ 5 24 (m_ 23),aK 6 25 24 false (f_ 34 4),aK 7 26 24 false (f_ 12 25),aK 8 27 24 false (f_ 1 26),bU 9 28 24 false (l_ 27),aK 10 29 24 false (.len 0 (.t 28)),aK 11 30 24 false (f_ 17 4),aK 12 31 24 false (f_ 15 30),aK 13 32 24 false (f_ 1 31),bU 14 33 24 false (l_ 32),aK 15 34 24 false (.len 0 (.t 33)),aK 16 35 24 false (.bin 0 0 (.t 29) (.t 34)),aK 17 36 24 false (.bin 3 2 (.t 35) (i_ 2000)),p_ 18 37 (.pick (.t 24) (.c (.bool true)) (.t 36)),p_ 19 38 (m_ 37),aK 20 39 38 false (f_ 34 4),aK 21 40 38 false (f_ 14 39),aK 22 41 38 false (f_ 2 40),bU 23 42 38 false (l_ 41),aK 24 43 38 false (k_ 42),aK 25 44 38 false (.bin 3 2 (.t 43) (i_ 20)),p_ 26 45 (.pick (.t 38) (.c (.bool true)) (.t 44)),p_ 27 46 (m_ 45),aK 28 47 46 false (f_ 51 4),aK 29 48 46 false (f_ 2 47),aK 30 49 46 false (f_ 2 48),bU 31 50 46 false (l_ 49),aK 32 51 46 false (k_ 50),aK 33 52 46 false (.bin 3 2 (.t 51) (i_ 20)),p_ 34 53 (.pick (.t 46) (.c (.bool true)) (.t 52)),p_ 35 54 (m_ 53),aK 36 55 54 false (f_ 56 4),bU 37 56 54 false (.ld true 18 (.t 55)),.e 38 (some 57) (some (54,false)) (.bsl 62 18 1 [.int 1 (.ofNat 0),.int 1 (.ofNat 0),.int 2 (.ofNat 0),.int 3 (.ofNat 0),.int 1 (.ofNat 0),.int 1 (.ofNat 0),.int 1 (.ofNat 0),.int 1 (.ofNat 0),.int 1 (.ofNat 0),.int 1 (.ofNat 0),.int 1 (.ofNat 0),.int 3 (.ofNat 0),.nilS,.int 1 (.ofNat 0),.str [],.nilS,.int 1 (.ofNat 0),.int 2 (.ofNat 0)] [(0,18)] [.t 56]),qf 39 58 54 false 14 [.t 57],aK 40 59 54 false (.un 0 (.t 58)),p_ 41 60 (.pick (.t 54) (.c (.bool true)) (.t 59))]) (.cond (.t 60) (.seq (g_ 1 [p_ 0 2 (.mv (.c (.bool false)))]) .ret) .skip)))) (g_ 3 [p_ 0 13 (m_ 3),p_ 1 14 (.bin 0 0 (.t 13) (i_ 1)),p_ 2 3 (m_ 14)]))) [(0,[.can 0 [0,3]]),(1,[.can 0 [2]]),(2,[.can 0 [0]])])
def Ps:XF:=.mk 64 (.one 2) (.aft (.seq (g_ 1 [p_ 0 2 (.mv (.c (.bool false)))]) (.seq (.seq (g_ 1 [p_ 0 3 (.mv (i_ 0))]) (.block 2 (.pre [.can 0 [0,3],.up 3,.can 0 [0,3]] (.inv 0 Cq)))) (.seq (g_ 4 [p_ 0 61 (m_ 0),p_ 1 62 (k_ 61),p_ 2 63 (.bin 3 1 (.t 62) (i_ 80)),p_ 3 2 (m_ 63)]) .ret))) [(0,[.up 2]),(1,[.up 2])])
theorem Rd:bT Tryz.prog 4 Ps=true:=by kernel_rfl
structure gW where
 h:Value
 l:List ez
 i:Int
def Js (p:gW):Prop:=p.l.length≤80→∀x∈p.l,BP x
noncomputable def kW (p:gW):IL:=((.cons 3 (.sy (.int 0 p.i)) (.cons 0 (.sy (.imm p.h 74 ez p.l gM)) .nil)),.leaf,0)
noncomputable def zk (p:gW) (K:KC):Bool:=ac (iP (Js p) (K 2 (.cons 0 (.sy (.imm p.h 74 ez p.l gM)) .nil) .leaf 0) true) (K 1 (.cons 2 (.bool false) .nil) .leaf 0)
def kG (p:gW):Prop:=0≤p.i∧p.i≤(p.l.length:Int)∧p.i≤100∧(∀(j:Nat) y,(j:Int)<p.i→p.l[j]?=some y→BP y)∧∀x∈p.l,yH x
noncomputable def vI (p:gW) (K:KC):Bool:=ac (au (kG p)) (zk p K)
noncomputable def Di:ft:=fun j S M nx K=>(Bool.rec (false) (aI fun p:gW=>ac (au ((S,M,nx)=kW p)) (vI p K)) (Nat.beq j 0))
def jo (p:gW):Nat:=((p.l.length:Int) - p.i).toNat
noncomputable def Ku (s:IL) (n:Nat) (K:KC):Bool:=aI fun q=>mP (s=kW q∧jo q<n) (vI q K)
theorem Ub {p q:gW} {K:KC} {s:IL} (hm:jo q<jo p:=by dsimp only[jo]<;>(omega)) (hp:kG q:=by dsimp only[kG]<;>(exact⟨by omega,by omega,by omega,vd g3 (by omega) (by assumption:p.l[p.i.toNat]?=some x1) ⟨by omega,by omega,by omega,(by assumption:_→dU _) (by first|assumption|exact Classical.not_not.1 (by assumption))⟩,g4⟩)) (hK:zk q K=true:=by exact(by first|exact hK|exact aM hK0 hK1)) (e:s=kW q:=by rfl):Ku s (jo p) K=true:=aG q (bf ⟨e,hm⟩ (bf hp hK))
theorem Sr (p:gW) (K:KC) (hpre:kG p) (hK:zk p K=true):(cQ (bH CX) Di 600 Cq (kW p).1 (kW p).2.1 (kW p).2.2 (fun e S M nx=>Nat.casesOn e (aI fun q:gW=>ac (au ((S,M,nx)=kW q∧jo q<jo p)) (vI q K)) (fun e2=>K (Nat.succ e2) S M nx)))=true:=by
 refine Eq.trans (b:=(let z0:Bool:=(K 1 (.cons 2 (.bool false) .nil) .leaf 0);let z1:Bool:=(K 2 (.cons 0 (.sy (.imm p.h 74 ez p.l gM)) .nil) .leaf 0);iP (p.i<(p.l.length:Int)) (iP (p.i<(100:Int)) (mP (0≤p.i∧p.i<(p.l.length:Int)) (aA fun x1:ez=>iP (p.l[p.i.toNat]?=some x1) (aI fun p1:tJ=>mP (([.sy (.imm x1.b.hp 5 aW x1.b.ps encP)],.leaf,0)=DH p1) (aA fun r1:HF=>iP (ul p1 r1) (iP (¬r1.q) z0 (mP (aL 0 ((x1.t.rv.length:Int)+(x1.e.rv.length:Int))) (iP ((2000:Int)<((x1.t.rv.length:Int)+(x1.e.rv.length:Int))) z0 (iP ((20:Int)<(x1.t.ms.length:Int)) z0 (iP ((20:Int)<(x1.s.ms.length:Int)) z0 (aI fun p2:AI=>mP (([.sl 0 0 1 (.ex 1)],(.node .leaf (some (.blk false 62 18 [(br ⟨x1.l.kind,⟨⟨x1.l.id.client.node,x1.l.id.client.life⟩,x1.l.id.seq,x1.l.id.depth,⟨x1.l.id.p0.group,x1.l.id.p0.index⟩,⟨x1.l.id.p1.group,x1.l.id.p1.index⟩,⟨x1.l.id.p2.group,x1.l.id.p2.index⟩⟩,x1.l.floor,x1.l.hp,x1.l.ps,x1.l.rc,x1.l.rv,x1.l.hw,x1.l.ws,⟨x1.l.vic.node,x1.l.vic.life⟩⟩)])) .leaf),1)=HK p2) (aA fun r2:KZ=>iP (sg p2 r2) (iP (¬r2.q) z0 (mP (aL 0 (p.i+(1:Int))) (Ku ((.cons 3 (.sy (.int 0 (p.i+(1:Int)))) (.cons 0 (.sy (.imm p.h 74 ez p.l gM)) .nil)),.leaf,0) (jo p) K))) true))))))) true)) true)) z1) z1)) (by kernel_rfl) ?_
 obtain⟨hK0,hKr0⟩:=aw hK
 have hK1:=hKr0
 dsimp only[kG]at hpre
 obtain⟨g0,g1,g2,g3,g4⟩:=hpre
 refine iI (fun hc1=> ?_) (fun hc1=> ?_)
 refine iI (fun hc2=> ?_) (fun hc2=> ?_)
 refine dL ?_
 refine aB (fun x1=> ?_)
 refine iI (fun hi3=> ?_) (fun _=>rfl)
 have hz_x1:=(g4 _ (acH (by assumption:p.l[p.i.toNat]?=some x1))).1
 unfold aau at hz_x1
 refine qh (⟨x1.b.hp,x1.b.ps⟩:tJ) rfl fun r1 hi4=> ?_
 dsimp only[ul]at hi4
 refine iI (fun hc5=> ?_) (fun hc5=> ?_)
 exact hK1
 refine aN ?_
 refine iI (fun hc6=> ?_) (fun hc6=> ?_)
 exact hK1
 refine iI (fun hc7=> ?_) (fun hc7=> ?_)
 exact hK1
 refine iI (fun hc8=> ?_) (fun hc8=> ?_)
 exact hK1
 refine qh (⟨⟨x1.l.kind,⟨⟨x1.l.id.client.node,x1.l.id.client.life⟩,x1.l.id.seq,x1.l.id.depth,⟨x1.l.id.p0.group,x1.l.id.p0.index⟩,⟨x1.l.id.p1.group,x1.l.id.p1.index⟩,⟨x1.l.id.p2.group,x1.l.id.p2.index⟩⟩,x1.l.floor,x1.l.hp,x1.l.ps,x1.l.rc,x1.l.rv,x1.l.hw,x1.l.ws,⟨x1.l.vic.node,x1.l.vic.life⟩⟩⟩:AI) rfl fun r2 hi9=> ?_
 dsimp only[sg]at hi9
 refine iI (fun hc10=> ?_) (fun hc10=> ?_)
 exact hK1
 refine aN ?_
 exact Ub (q:=⟨p.h,p.l,p.i+(1:Int)⟩)
 exact aP (show p.l.length≤80→∀x∈p.l,BP x from(by intro z;exact ra g3 (by omega))) hK0
 exact aP (show p.l.length≤80→∀x∈p.l,BP x from(by intro z;exact ra g3 (by omega))) hK0
theorem Te:dI Tryz.prog 64 0 Di true 0 Cq:=by
 exact dM (lf:=600) bv (aT zH) (by rfl) kW jo vI (fun b j x h=>by cases h) (fun S M nx K h=>by obtain⟨p,h⟩:=bL h;exact⟨p,(aa h).1,(aa h).2⟩) (fun p K h=>Sr p K (aa h).1 (aa h).2)
structure vv where
 h:Value
 l:List ez
structure NB where
 q:Prop
def tN (p:vv) (r:NB):Prop:=r.q→p.l.length≤80∧∀x∈p.l,BP x
noncomputable def CK (p:vv):IE:=([.sy (.imm p.h 74 ez p.l gM)],.leaf,0)
noncomputable def Fb (p:vv) (K:KE):Bool:=aA fun r:NB=>iP (tN p r) (K (.sy (.bool r.q)) .leaf 0) true
def ug (p:vv):Prop:=∀x∈p.l,yH x
theorem MI {p:vv} {K:KE} (hK:Fb p K=true) (r:NB) (h:tN p r):K (.sy (.bool r.q)) .leaf 0=true:=aP h (aF hK r)
theorem Xj (p:vv) (K:KE) (hpre:ug p) (hK:Fb p K=true):(bZ 0 (bH CX) Di 600 Ps (CK p).1 (CK p).2.1 (CK p).2.2 K)=true:=by
 refine Eq.trans (b:=(aI fun p1:gW=>mP (((.cons 3 (.sy (.int 0 0)) (.cons 0 (.sy (.imm p.h 74 ez p.l gM)) .nil)),.leaf,0)=kW p1) (mP (kG p1) (ac (iP (Js p1) (K (.sy (.bool ((p1.l.length:Int)≤(80:Int)))) .leaf 0) true) (K (.sy (.bool (false=true))) .leaf 0))))) (by kernel_rfl) ?_
 dsimp only[ug]at hpre
 refine dG (⟨p.h,p.l,(0:Int)⟩:gW) rfl (by(try dsimp only[kG]);exact⟨by omega,by omega,by omega,fun j y h1 h2=>by omega,hpre⟩) ?_
 refine aM ?_ ?_
 refine iI (p:=p.l.length≤80→∀x∈p.l,BP x) (fun hi1=> ?_) (fun _=>rfl)
 exact MI hK ⟨(p.l.length:Int)≤(80:Int)⟩ (by dsimp only[tN]<;>(first|(intro z;cases z;done)|(intro z;exact⟨by omega,hi1 (by omega)⟩)))
 exact MI hK ⟨false=true⟩ (by dsimp only[tN]<;>(first|(intro z;cases z;done)|(intro z;exact⟨by omega,hi0 (by omega)⟩)))
noncomputable def zJ:=bM CX 0 (ce CK (dD ug Fb)) 4 [(0,23)]
theorem wU:be Tryz.prog zJ:=aY (bV (f:=4) (k:=0) (lp:=Di) (lf:=600) bv (aT zH) Rd (by rfl) (fun b j x h=>(cd Te (fun h=>(by cases h)) h)) fun p K h=>Xj p K (aa h).1 (aa h).2) zH
def Ar:XC:=(.aft (.seq (.seq (g_ 4 [p_ 0 5 (m_ 4),p_ 1 6 (m_ 0),p_ 2 7 (k_ 6),p_ 3 8 (.bin 3 0 (.t 5) (.t 7))]) (.cond (.t 8) .skip (.exit 2))) (.seq (.block 3 (g_ 9 [p_ 0 11 (m_ 3),p_ 1 12 (m_ 0),p_ 2 13 (m_ 4),p_ 3 14 (.ixs 5 (.t 12) (.t 13)),r_ 4 15 (.ld true 5 (.t 14)),c_ 5 16 74 [.t 15],e_ 6 17 (.bsl 154 5 1 [.int 1 (.ofNat 0),.int 1 (.ofNat 0),.str [],.str [],.int 0 (.ofNat 0)] [(0,5)] [.t 16]),e_ 7 18 (.app 154 5 48 (.t 11) (.t 17)),p_ 8 3 (m_ 18)])) (g_ 3 [p_ 0 9 (m_ 4),p_ 1 10 (.bin 0 0 (.t 9) (i_ 1)),p_ 2 4 (m_ 10)]))) [(0,[.can 0 [0,3,4]]),(2,[.can 0 [3]])])
def Mm:XF:=.mk 20 (.one 2) (.aft (.seq (g_ 1 [p_ 0 2 (.mv (.c .nilS))]) (.seq (g_ 1 [p_ 0 3 (.mv (.c .nilS))]) (.seq (.seq (g_ 1 [p_ 0 4 (.mv (i_ 0))]) (.block 2 (.pre [.can 0 [0,3,4],.born 3 154 5 aW encP,.up 4,.can 0 [0,3,4]] (.inv 0 Ar)))) (.seq (g_ 2 [p_ 0 19 (m_ 3),p_ 1 2 (m_ 19)]) .ret)))) [(0,[.frz 2]),(1,[.frz 2])])
theorem Ou:bT Tryz.prog 49 Mm=true:=by kernel_rfl
structure fL where
 h:Value
 l:(List aW)
 o:(List aW)
 i:Int
structure CA where
 o:(List aW)
def pQ (p:fL) (r:CA):Prop:=r.o=p.l
noncomputable def jy (p:fL):IL:=((.cons 4 (.sy (.int 0 p.i)) (.cons 3 (.sy (.prow 0 p.o.length)) (.cons 0 (.sy (.imm p.h 5 aW p.l encP)) .nil))),(.node .leaf (some (.prow 154 5 aW p.o encP)) .leaf),1)
noncomputable def rG (p:fL) (K:KC):Bool:=aA fun r:CA=>iP (pQ p r) (K 2 (.cons 3 (.sy (.prow 0 r.o.length)) .nil) (.node .leaf (some (.prow 154 5 aW r.o encP)) .leaf) 1) true
def jD (p:fL):Prop:=p.l.length≤2932031007402∧0≤p.i∧p.i≤(p.l.length:Int)∧(p.o.length:Int)=p.i∧p.o=p.l.take p.i.toNat
theorem OD {p:fL} {K:KC} (hK:rG p K=true) (r:CA) (h:pQ p r):K 2 (.cons 3 (.sy (.prow 0 r.o.length)) .nil) (.node .leaf (some (.prow 154 5 aW r.o encP)) .leaf) 1=true:=aP h (aF hK r)
noncomputable def tn (p:fL) (K:KC):Bool:=ac (au (jD p)) (rG p K)
noncomputable def zV:ft:=fun j S M nx K=>(Bool.rec (false) (aI fun p:fL=>ac (au ((S,M,nx)=jy p)) (tn p K)) (Nat.beq j 0))
def hZ (p:fL):Nat:=((p.l.length:Int) - p.i).toNat
noncomputable def Hv (s:IL) (n:Nat) (K:KC):Bool:=aI fun q=>mP (s=jy q∧hZ q<n) (tn q K)
theorem RG {p q:fL} {K:KC} {s:IL} (hm:hZ q<hZ p:=by dsimp only[hZ]<;>(omega)) (hp:jD q:=by dsimp only[jD]<;>(exact⟨g0,by omega,by omega,by simp;omega,by rw[show(p.i+1).toNat=p.i.toNat+1 by omega,←tk (by assumption:p.l[p.i.toNat]?=some x1),g4]⟩)) (hK:rG q K=true:=by exact hK) (e:s=jy q:=by rfl):Hv s (hZ p) K=true:=aG q (bf ⟨e,hm⟩ (bf hp hK))
theorem Qb (p:fL) (K:KC) (hpre:jD p) (hK:rG p K=true):(cQ (bH zJ) zV 600 Ar (jy p).1 (jy p).2.1 (jy p).2.2 (fun e S M nx=>Nat.casesOn e (aI fun q:fL=>ac (au ((S,M,nx)=jy q∧hZ q<hZ p)) (tn q K)) (fun e2=>K (Nat.succ e2) S M nx)))=true:=by
 refine Eq.trans (b:=(iP (p.i<(p.l.length:Int)) (mP (0≤p.i∧p.i<(p.l.length:Int)) (aA fun x1:aW=>iP (p.l[p.i.toNat]?=some x1) (mP (p.o.length=p.o.length) (aI fun m1:List aW=>mP (dx (m1.map encP) [[.sint 1 x1.g,.sint 1 x1.k,.sstr x1.key,.sstr x1.val,.sint 0 x1.n]]) (mP (dh 48 (p.o.length+m1.length)) (mP (aL 0 (p.i+(1:Int))) (Hv ((.cons 4 (.sy (.int 0 (p.i+(1:Int)))) (.cons 3 (.sy (.prow 0 ((p.o++m1).length))) (.cons 0 (.sy (.imm p.h 5 aW p.l encP)) .nil))),(.node .leaf (some (.prow 154 5 aW (p.o++m1) encP)) .leaf),1) (hZ p) K))))) true)) (K 2 (.cons 3 (.sy (.prow 0 p.o.length)) .nil) (.node .leaf (some (.prow 154 5 aW p.o encP)) .leaf) 1))) (by kernel_rfl) ?_
 dsimp only[jD]at hpre
 obtain⟨g0,g1,g2,g3,g4⟩:=hpre
 refine iI (fun hc1=> ?_) (fun hc1=> ?_)
 refine dL ?_
 refine aB (fun x1=> ?_)
 refine iI (fun hi2=> ?_) (fun _=>rfl)
 refine az ?_
 refine aG [x1] ?_
 refine jN (mI (by(try dsimp only);(first|omega|(simp[dh]<;>omega))) (aN ?_))
 exact RG (q:=⟨p.h,p.l,p.o++[x1],p.i+(1:Int)⟩)
 exact OD hK ⟨p.o⟩ (by dsimp only[pQ]<;>(rw[g4];exact List.take_of_length_le (by omega)))
theorem QN:dI Tryz.prog 20 0 zV true 0 Ar:=by
 exact dM (lf:=600) bv (aT wU) (by rfl) jy hZ tn (fun b j x h=>by cases h) (fun S M nx K h=>by obtain⟨p,h⟩:=bL h;exact⟨p,(aa h).1,(aa h).2⟩) (fun p K h=>Qb p K (aa h).1 (aa h).2)
structure pw where
 h:Value
 l:(List aW)
structure Ja where
 h:Value
 o:(List aW)
def oB (p:pw) (r:Ja):Prop:=r.o=p.l
noncomputable def tV (p:pw):IE:=([.sy (.imm p.h 5 aW p.l encP)],.leaf,0)
noncomputable def Bp (p:pw) (K:KE):Bool:=aA fun r:Ja=>iP (oB p r) (K (.sy (.imm r.h 5 aW r.o encP)) .leaf 0) true
def lS (p:pw):Prop:=p.l.length≤2932031007402
theorem TL {p:pw} {K:KE} (hK:Bp p K=true) (r:Ja) (h:oB p r):K (.sy (.imm r.h 5 aW r.o encP)) .leaf 0=true:=aP h (aF hK r)
theorem Up (p:pw) (K:KE) (hpre:lS p) (hK:Bp p K=true):(bZ 0 (bH zJ) zV 600 Mm (tV p).1 (tV p).2.1 (tV p).2.2 K)=true:=by
 refine Eq.trans (b:=(aX (((.cons 4 (.sy (.int 0 0)) (.cons 3 (.sy (.prow 0 0)) (.cons 0 (.sy (.imm p.h 5 aW p.l encP)) .nil))),(.node .leaf (some (.prow 154 5 aW ([]:List aW) encP)) .leaf),1)) jy jD pQ fun p1 r1=>mP (r1.o.length=r1.o.length) (aA fun h1:Value=>K (.sy (.imm h1 5 aW r1.o encP)) .leaf 0))) (by kernel_rfl) ?_
 dsimp only[lS]at hpre
 refine aJ (⟨p.h,p.l,([]:List aW),(0:Int)⟩:fL) rfl (by(try dsimp only[jD]);exact⟨by assumption,by omega,by omega,by simp,by simp⟩) fun r1 hi1=> ?_
 dsimp only[pQ]at hi1
 refine az ?_
 refine aB (fun h1=> ?_)
 exact TL hK ⟨h1,r1.o⟩ (by dsimp only[oB]<;>exact hi1)
noncomputable def vY:=bM zJ 0 (ce tV (dD lS Bp)) 49 [(0,23)]
theorem uH:be Tryz.prog vY:=aY (bV (f:=49) (k:=0) (lp:=zV) (lf:=600) bv (aT wU) Ou (by rfl) (fun b j x h=>(cd QN (fun h=>(by cases h)) h)) fun p K h=>Up p K (aa h).1 (aa h).2) wU
def xn:XC:=(.aft (.seq (.seq (g_ 4 [p_ 0 5 (m_ 4),p_ 1 6 (m_ 0),p_ 2 7 (k_ 6),p_ 3 8 (.bin 3 0 (.t 5) (.t 7))]) (.cond (.t 8) .skip (.exit 2))) (.seq (.block 3 (h_ 20 [p_ 0 11 (m_ 3),p_ 1 12 (m_ 0),p_ 2 13 (m_ 4),p_ 3 14 (.ixs 3 (.t 12) (.t 13)),p_ 4 15 (f_ 0 14),r_ 5 16 (l_ 15),p_ 6 17 (m_ 0),p_ 7 18 (m_ 4),p_ 8 19 (.ixs 3 (.t 17) (.t 18)),p_ 9 20 (f_ 1 19),r_ 10 21 (l_ 20),p_ 11 22 (m_ 0),p_ 12 23 (m_ 4),p_ 13 24 (.ixs 3 (.t 22) (.t 23)),p_ 14 25 (f_ 2 24),r_ 15 26 (l_ 25),p_ 16 27 (.bld [.str [],.str [],.bool false] [(0,1),(1,1),(2,1)] [.t 16,.t 21,.t 26]),e_ 17 28 (.bsl 196 3 1 [.str [],.str [],.bool false] [(0,3)] [.t 27]),e_ 18 29 (.app 196 3 40 (.t 11) (.t 28)),p_ 19 3 (m_ 29)])) (g_ 3 [p_ 0 9 (m_ 4),p_ 1 10 (.bin 0 0 (.t 9) (i_ 1)),p_ 2 4 (m_ 10)]))) [(0,[.can 0 [0,3,4]]),(2,[.can 0 [3]])])
def JM:XF:=.mk 31 (.one 2) (.aft (.seq (g_ 1 [p_ 0 2 (.mv (.c .nilS))]) (.seq (g_ 1 [p_ 0 3 (.mv (.c .nilS))]) (.seq (.seq (g_ 1 [p_ 0 4 (.mv (i_ 0))]) (.block 2 (.pre [.can 0 [0,3,4],.born 3 196 3 bg bb,.up 4,.can 0 [0,3,4]] (.inv 0 xn)))) (.seq (g_ 2 [p_ 0 30 (m_ 3),p_ 1 2 (m_ 30)]) .ret)))) [(0,[.frz 2]),(1,[.frz 2])])
theorem LY:bT Tryz.prog 54 JM=true:=by kernel_rfl
structure eK where
 h:Value
 l:(List bg)
 o:(List bg)
 i:Int
structure AA where
 o:(List bg)
def nQ (p:eK) (r:AA):Prop:=r.o=p.l
noncomputable def ic (p:eK):IL:=((.cons 4 (.sy (.int 0 p.i)) (.cons 3 (.sy (.prow 0 p.o.length)) (.cons 0 (.sy (.imm p.h 3 bg p.l bb)) .nil))),(.node .leaf (some (.prow 196 3 bg p.o bb)) .leaf),1)
noncomputable def pR (p:eK) (K:KC):Bool:=aA fun r:AA=>iP (nQ p r) (K 2 (.cons 3 (.sy (.prow 0 r.o.length)) .nil) (.node .leaf (some (.prow 196 3 bg r.o bb)) .leaf) 1) true
def iz (p:eK):Prop:=p.l.length≤300∧0≤p.i∧p.i≤(p.l.length:Int)∧(p.o.length:Int)=p.i∧p.o=p.l.take p.i.toNat
theorem MJ {p:eK} {K:KC} (hK:pR p K=true) (r:AA) (h:nQ p r):K 2 (.cons 3 (.sy (.prow 0 r.o.length)) .nil) (.node .leaf (some (.prow 196 3 bg r.o bb)) .leaf) 1=true:=aP h (aF hK r)
noncomputable def rr (p:eK) (K:KC):Bool:=ac (au (iz p)) (pR p K)
noncomputable def wb:ft:=fun j S M nx K=>(Bool.rec (false) (aI fun p:eK=>ac (au ((S,M,nx)=ic p)) (rr p K)) (Nat.beq j 0))
def gj (p:eK):Nat:=((p.l.length:Int) - p.i).toNat
noncomputable def Eo (s:IL) (n:Nat) (K:KC):Bool:=aI fun q=>mP (s=ic q∧gj q<n) (rr q K)
theorem OE {p q:eK} {K:KC} {s:IL} (hm:gj q<gj p:=by dsimp only[gj]<;>(omega)) (hp:iz q:=by dsimp only[iz]<;>(exact⟨g0,by omega,by omega,by simp;omega,by have e2:=ac1 ((by assumption:p.l[p.i.toNat]?=some x1).symm.trans (by assumption:p.l[p.i.toNat]?=some x2));subst e2;have e3:=ac1 ((by assumption:p.l[p.i.toNat]?=some x1).symm.trans (by assumption:p.l[p.i.toNat]?=some x3));subst e3;rw[show(p.i+1).toNat=p.i.toNat+1 by omega,←tk (by assumption:p.l[p.i.toNat]?=some x1),g4]⟩)) (hK:pR q K=true:=by exact hK) (e:s=ic q:=by rfl):Eo s (gj p) K=true:=aG q (bf ⟨e,hm⟩ (bf hp hK))
theorem NO (p:eK) (K:KC) (hpre:iz p) (hK:pR p K=true):(cQ (bH vY) wb 600 xn (ic p).1 (ic p).2.1 (ic p).2.2 (fun e S M nx=>Nat.casesOn e (aI fun q:eK=>ac (au ((S,M,nx)=ic q∧gj q<gj p)) (rr q K)) (fun e2=>K (Nat.succ e2) S M nx)))=true:=by
 refine Eq.trans (b:=(iP (p.i<(p.l.length:Int)) (mP (0≤p.i∧p.i<(p.l.length:Int)) (aA fun x1:bg=>iP (p.l[p.i.toNat]?=some x1) (mP (0≤p.i∧p.i<(p.l.length:Int)) (aA fun x2:bg=>iP (p.l[p.i.toNat]?=some x2) (mP (0≤p.i∧p.i<(p.l.length:Int)) (aA fun x3:bg=>iP (p.l[p.i.toNat]?=some x3) (mP (p.o.length=p.o.length) (aI fun m1:List bg=>mP (dx (m1.map bb) [[.sstr x1.key,.sstr x2.val,.sbool x3.has]]) (mP (dh 40 (p.o.length+m1.length)) (mP (aL 0 (p.i+(1:Int))) (Eo ((.cons 4 (.sy (.int 0 (p.i+(1:Int)))) (.cons 3 (.sy (.prow 0 ((p.o++m1).length))) (.cons 0 (.sy (.imm p.h 3 bg p.l bb)) .nil))),(.node .leaf (some (.prow 196 3 bg (p.o++m1) bb)) .leaf),1) (gj p) K))))) true)) true)) true)) (K 2 (.cons 3 (.sy (.prow 0 p.o.length)) .nil) (.node .leaf (some (.prow 196 3 bg p.o bb)) .leaf) 1))) (by kernel_rfl) ?_
 dsimp only[iz]at hpre
 obtain⟨g0,g1,g2,g3,g4⟩:=hpre
 refine iI (fun hc1=> ?_) (fun hc1=> ?_)
 refine dL ?_
 refine aB (fun x1=> ?_)
 refine iI (fun hi2=> ?_) (fun _=>rfl)
 refine dL ?_
 refine aB (fun x2=> ?_)
 refine iI (fun hi3=> ?_) (fun _=>rfl)
 refine dL ?_
 refine aB (fun x3=> ?_)
 refine iI (fun hi4=> ?_) (fun _=>rfl)
 refine az ?_
 refine aG [⟨x1.key,x2.val,x3.has⟩] ?_
 refine jN (mI (by(try dsimp only);(first|omega|(simp[dh]<;>omega))) (aN ?_))
 exact OE (q:=⟨p.h,p.l,p.o++[⟨x1.key,x2.val,x3.has⟩],p.i+(1:Int)⟩)
 exact MJ hK ⟨p.o⟩ (by dsimp only[nQ]<;>(rw[g4];exact List.take_of_length_le (by omega)))
theorem Oa:dI Tryz.prog 31 0 wb true 0 xn:=by
 exact dM (lf:=600) bv (aT uH) (by rfl) ic gj rr (fun b j x h=>by cases h) (fun S M nx K h=>by obtain⟨p,h⟩:=bL h;exact⟨p,(aa h).1,(aa h).2⟩) (fun p K h=>NO p K (aa h).1 (aa h).2)
structure oP where
 h:Value
 l:(List bg)
structure FT where
 h:Value
 o:(List bg)
def rZ (p:oP) (r:FT):Prop:=r.o=p.l
noncomputable def vh (p:oP):IE:=([.sy (.imm p.h 3 bg p.l bb)],.leaf,0)
noncomputable def yL (p:oP) (K:KE):Bool:=aA fun r:FT=>iP (rZ p r) (K (.sy (.imm r.h 3 bg r.o bb)) .leaf 0) true
def pI (p:oP):Prop:=p.l.length≤300
theorem Ri {p:oP} {K:KE} (hK:yL p K=true) (r:FT) (h:rZ p r):K (.sy (.imm r.h 3 bg r.o bb)) .leaf 0=true:=aP h (aF hK r)
theorem RT (p:oP) (K:KE) (hpre:pI p) (hK:yL p K=true):(bZ 0 (bH vY) wb 600 JM (vh p).1 (vh p).2.1 (vh p).2.2 K)=true:=by
 refine Eq.trans (b:=(aX (((.cons 4 (.sy (.int 0 0)) (.cons 3 (.sy (.prow 0 0)) (.cons 0 (.sy (.imm p.h 3 bg p.l bb)) .nil))),(.node .leaf (some (.prow 196 3 bg ([]:List bg) bb)) .leaf),1)) ic iz nQ fun p1 r1=>mP (r1.o.length=r1.o.length) (aA fun h1:Value=>K (.sy (.imm h1 3 bg r1.o bb)) .leaf 0))) (by kernel_rfl) ?_
 dsimp only[pI]at hpre
 refine aJ (⟨p.h,p.l,([]:List bg),(0:Int)⟩:eK) rfl (by(try dsimp only[iz]);exact⟨by assumption,by omega,by omega,by simp,by simp⟩) fun r1 hi1=> ?_
 dsimp only[nQ]at hi1
 refine az ?_
 refine aB (fun h1=> ?_)
 exact Ri hK ⟨h1,r1.o⟩ (by dsimp only[rZ]<;>exact hi1)
noncomputable def tu:=bM vY 0 (ce vh (dD pI yL)) 54 [(0,23)]
theorem sU:be Tryz.prog tu:=aY (bV (f:=54) (k:=0) (lp:=wb) (lf:=600) bv (aT uH) LY (by rfl) (fun b j x h=>(cd Oa (fun h=>(by cases h)) h)) fun p K h=>RT p K (aa h).1 (aa h).2) uH
def Am:XC:=(.aft (.seq (.seq (g_ 4 [p_ 0 5 (m_ 4),p_ 1 6 (m_ 0),p_ 2 7 (k_ 6),p_ 3 8 (.bin 3 0 (.t 5) (.t 7))]) (.cond (.t 8) .skip (.exit 2))) (.seq (.block 3 (g_ 9 [p_ 0 11 (m_ 3),p_ 1 12 (m_ 0),p_ 2 13 (m_ 4),p_ 3 14 (.ixs 2 (.t 12) (.t 13)),r_ 4 15 (.ld true 2 (.t 14)),c_ 5 16 55 [.t 15],e_ 6 17 (.bsl 71 2 1 [.int 1 (.ofNat 0),.int 2 (.ofNat 0)] [(0,2)] [.t 16]),e_ 7 18 (.app 71 2 4 (.t 11) (.t 17)),p_ 8 3 (m_ 18)])) (g_ 3 [p_ 0 9 (m_ 4),p_ 1 10 (.bin 0 0 (.t 9) (i_ 1)),p_ 2 4 (m_ 10)]))) [(0,[.can 0 [0,3,4]]),(2,[.can 0 [3]])])
def Mk:XF:=.mk 20 (.one 2) (.aft (.seq (g_ 1 [p_ 0 2 (.mv (.c .nilS))]) (.seq (g_ 1 [p_ 0 3 (.mv (.c .nilS))]) (.seq (.seq (g_ 1 [p_ 0 4 (.mv (i_ 0))]) (.block 2 (.pre [.can 0 [0,3,4],.born 3 71 2 Proc bJ,.up 4,.can 0 [0,3,4]] (.inv 0 Am)))) (.seq (g_ 2 [p_ 0 19 (m_ 3),p_ 1 2 (m_ 19)]) .ret)))) [(0,[.frz 2]),(1,[.frz 2])])
theorem Ot:bT Tryz.prog 79 Mk=true:=by kernel_rfl
structure fK where
 h:Value
 l:(List Proc)
 o:(List Proc)
 i:Int
structure Cz where
 o:(List Proc)
def pP (p:fK) (r:Cz):Prop:=r.o=p.l
noncomputable def jx (p:fK):IL:=((.cons 4 (.sy (.int 0 p.i)) (.cons 3 (.sy (.prow 0 p.o.length)) (.cons 0 (.sy (.imm p.h 2 Proc p.l bJ)) .nil))),(.node .leaf (some (.prow 71 2 Proc p.o bJ)) .leaf),1)
noncomputable def rF (p:fK) (K:KC):Bool:=aA fun r:Cz=>iP (pP p r) (K 2 (.cons 3 (.sy (.prow 0 r.o.length)) .nil) (.node .leaf (some (.prow 71 2 Proc r.o bJ)) .leaf) 1) true
def jC (p:fK):Prop:=p.l.length≤20∧0≤p.i∧p.i≤(p.l.length:Int)∧(p.o.length:Int)=p.i∧p.o=p.l.take p.i.toNat
theorem OC {p:fK} {K:KC} (hK:rF p K=true) (r:Cz) (h:pP p r):K 2 (.cons 3 (.sy (.prow 0 r.o.length)) .nil) (.node .leaf (some (.prow 71 2 Proc r.o bJ)) .leaf) 1=true:=aP h (aF hK r)
noncomputable def tm (p:fK) (K:KC):Bool:=ac (au (jC p)) (rF p K)
noncomputable def zU:ft:=fun j S M nx K=>(Bool.rec (false) (aI fun p:fK=>ac (au ((S,M,nx)=jx p)) (tm p K)) (Nat.beq j 0))
def hY (p:fK):Nat:=((p.l.length:Int) - p.i).toNat
noncomputable def Hu (s:IL) (n:Nat) (K:KC):Bool:=aI fun q=>mP (s=jx q∧hY q<n) (tm q K)
theorem RF {p q:fK} {K:KC} {s:IL} (hm:hY q<hY p:=by dsimp only[hY]<;>(omega)) (hp:jC q:=by dsimp only[jC]<;>(exact⟨g0,by omega,by omega,by simp;omega,by rw[show(p.i+1).toNat=p.i.toNat+1 by omega,←tk (by assumption:p.l[p.i.toNat]?=some x1),g4]⟩)) (hK:rF q K=true:=by exact hK) (e:s=jx q:=by rfl):Hu s (hY p) K=true:=aG q (bf ⟨e,hm⟩ (bf hp hK))
theorem Qa (p:fK) (K:KC) (hpre:jC p) (hK:rF p K=true):(cQ (bH tu) zU 600 Am (jx p).1 (jx p).2.1 (jx p).2.2 (fun e S M nx=>Nat.casesOn e (aI fun q:fK=>ac (au ((S,M,nx)=jx q∧hY q<hY p)) (tm q K)) (fun e2=>K (Nat.succ e2) S M nx)))=true:=by
 refine Eq.trans (b:=(iP (p.i<(p.l.length:Int)) (mP (0≤p.i∧p.i<(p.l.length:Int)) (aA fun x1:Proc=>iP (p.l[p.i.toNat]?=some x1) (mP (p.o.length=p.o.length) (aI fun m1:List Proc=>mP (dx (m1.map bJ) [[.sint 1 x1.node,.sint 2 x1.life]]) (mP (dh 4 (p.o.length+m1.length)) (mP (aL 0 (p.i+(1:Int))) (Hu ((.cons 4 (.sy (.int 0 (p.i+(1:Int)))) (.cons 3 (.sy (.prow 0 ((p.o++m1).length))) (.cons 0 (.sy (.imm p.h 2 Proc p.l bJ)) .nil))),(.node .leaf (some (.prow 71 2 Proc (p.o++m1) bJ)) .leaf),1) (hY p) K))))) true)) (K 2 (.cons 3 (.sy (.prow 0 p.o.length)) .nil) (.node .leaf (some (.prow 71 2 Proc p.o bJ)) .leaf) 1))) (by kernel_rfl) ?_
 dsimp only[jC]at hpre
 obtain⟨g0,g1,g2,g3,g4⟩:=hpre
 refine iI (fun hc1=> ?_) (fun hc1=> ?_)
 refine dL ?_
 refine aB (fun x1=> ?_)
 refine iI (fun hi2=> ?_) (fun _=>rfl)
 refine az ?_
 refine aG [x1] ?_
 refine jN (mI (by(try dsimp only);(first|omega|(simp[dh]<;>omega))) (aN ?_))
 exact RF (q:=⟨p.h,p.l,p.o++[x1],p.i+(1:Int)⟩)
 exact OC hK ⟨p.o⟩ (by dsimp only[pP]<;>(rw[g4];exact List.take_of_length_le (by omega)))
theorem QM:dI Tryz.prog 20 0 zU true 0 Am:=by
 exact dM (lf:=600) bv (aT sU) (by rfl) jx hY tm (fun b j x h=>by cases h) (fun S M nx K h=>by obtain⟨p,h⟩:=bL h;exact⟨p,(aa h).1,(aa h).2⟩) (fun p K h=>Qa p K (aa h).1 (aa h).2)
structure pv where
 h:Value
 l:(List Proc)
structure IZ where
 h:Value
 o:(List Proc)
def oA (p:pv) (r:IZ):Prop:=r.o=p.l
noncomputable def tU (p:pv):IE:=([.sy (.imm p.h 2 Proc p.l bJ)],.leaf,0)
noncomputable def Bo (p:pv) (K:KE):Bool:=aA fun r:IZ=>iP (oA p r) (K (.sy (.imm r.h 2 Proc r.o bJ)) .leaf 0) true
def lR (p:pv):Prop:=p.l.length≤20
theorem TK {p:pv} {K:KE} (hK:Bo p K=true) (r:IZ) (h:oA p r):K (.sy (.imm r.h 2 Proc r.o bJ)) .leaf 0=true:=aP h (aF hK r)
theorem Uo (p:pv) (K:KE) (hpre:lR p) (hK:Bo p K=true):(bZ 0 (bH tu) zU 600 Mk (tU p).1 (tU p).2.1 (tU p).2.2 K)=true:=by
 refine Eq.trans (b:=(aX (((.cons 4 (.sy (.int 0 0)) (.cons 3 (.sy (.prow 0 0)) (.cons 0 (.sy (.imm p.h 2 Proc p.l bJ)) .nil))),(.node .leaf (some (.prow 71 2 Proc ([]:List Proc) bJ)) .leaf),1)) jx jC pP fun p1 r1=>mP (r1.o.length=r1.o.length) (aA fun h1:Value=>K (.sy (.imm h1 2 Proc r1.o bJ)) .leaf 0))) (by kernel_rfl) ?_
 dsimp only[lR]at hpre
 refine aJ (⟨p.h,p.l,([]:List Proc),(0:Int)⟩:fK) rfl (by(try dsimp only[jC]);exact⟨by assumption,by omega,by omega,by simp,by simp⟩) fun r1 hi1=> ?_
 dsimp only[pP]at hi1
 refine az ?_
 refine aB (fun h1=> ?_)
 exact TK hK ⟨h1,r1.o⟩ (by dsimp only[oA]<;>exact hi1)
noncomputable def BF:=bM tu 0 (ce tU (dD lR Bo)) 79 [(0,23)]
theorem BE:be Tryz.prog BF:=aY (bV (f:=79) (k:=0) (lp:=zU) (lf:=600) bv (aT sU) Ot (by rfl) (fun b j x h=>(cd QM (fun h=>(by cases h)) h)) fun p K h=>Uo p K (aa h).1 (aa h).2) sU
def Ka:XF:=.mk 8 (.one 2) (.aft (.seq (g_ 1 [p_ 0 2 (.mv (.c .nilS))]) (.seq (.seq (g_ 2 [p_ 0 3 (m_ 0),p_ 1 4 (.isn false 2 (.t 3))]) (.cond (.t 4) (.seq (g_ 1 [p_ 0 2 (.mv (.c .nilS))]) .ret) .skip)) (.seq (g_ 4 [e_ 0 5 (.bsl 154 5 0 [] [] []),p_ 1 6 (m_ 0),e_ 2 7 (.app 154 5 48 (.t 5) (.t 6)),p_ 3 2 (m_ 7)]) .ret))) [(0,[.bors 2 154 5 aW encP,.frz 2]),(1,[.bors 2 154 5 aW encP,.frz 2])])
theorem Mv:bT Tryz.prog 45 Ka=true:=by kernel_rfl
structure ek where
 h:Value
 l:(List aW)
structure Gh where
 h:Value
 o:(List aW)
def bY (p:ek) (r:Gh):Prop:=r.o=p.l
noncomputable def eT (p:ek):IE:=([.sy (.imm p.h 5 aW p.l encP)],.leaf,0)
noncomputable def zo (p:ek) (K:KE):Bool:=aA fun r:Gh=>iP (bY p r) (K (.sy (.imm r.h 5 aW r.o encP)) .leaf 0) true
def bX (p:ek):Prop:=p.l.length≤2932031007402
theorem Aa {p:ek} {K:KE} (hK:zo p K=true) (r:Gh) (h:bY p r):K (.sy (.imm r.h 5 aW r.o encP)) .leaf 0=true:=aP h (aF hK r)
theorem Sg (p:ek) (K:KE) (hpre:bX p) (hK:zo p K=true):(bZ 0 (bH BF) dT 600 Ka (eT p).1 (eT p).2.1 (eT p).2.2 K)=true:=by
 refine Eq.trans (b:=(iP (lF p.h→p.l=[]) (iP (lF p.h) (mP (0=([]:List aW).length) (aA fun h1:Value=>K (.sy (.imm h1 5 aW ([]:List aW) encP)) .leaf 0)) (iP (p.l=[]) (mP (0=([]:List aW).length) (aA fun h2:Value=>K (.sy (.imm h2 5 aW ([]:List aW) encP)) .leaf 0)) (mP (dh 48 p.l.length) (mP (p.l.length=p.l.length) (aA fun h3:Value=>K (.sy (.imm h3 5 aW p.l encP)) .leaf 0))))) true)) (by kernel_rfl) ?_
 dsimp only[bX]at hpre
 refine iI (fun hi1=> ?_) (fun _=>rfl)
 refine iI (fun hc2=> ?_) (fun hc2=> ?_)
 refine az ?_
 refine aB (fun h1=> ?_)
 exact Aa hK ⟨h1,([]:List aW)⟩ (by dsimp only[bY]<;>(first|(simp_all;done)|rfl))
 refine iI (fun hc3=> ?_) (fun hc3=> ?_)
 have hc3l:(p.l).length=0:=(by rw[hc3];rfl)
 refine az ?_
 refine aB (fun h2=> ?_)
 exact Aa hK ⟨h2,([]:List aW)⟩ (by dsimp only[bY]<;>(first|(simp_all;done)|rfl))
 have hc3l:0<(p.l).length:=List.length_pos_iff.2 hc3
 refine mI (by(first|omega|(simp[dh]<;>omega))) (az ?_)
 refine aB (fun h3=> ?_)
 exact Aa hK ⟨h3,p.l⟩ (by dsimp only[bY]<;>(first|(simp_all;done)|rfl))
noncomputable def zP:=bM BF 0 (ce eT (dD bX zo)) 45 [(0,23)]
theorem AO:be Tryz.prog zP:=aY (cX (f:=45) (k:=0) (aT BE) Mv (by rfl) (by rfl) Sg) BE
def JZ:XF:=.mk 8 (.one 2) (.aft (.seq (g_ 1 [p_ 0 2 (.mv (.c .nilS))]) (.seq (.seq (g_ 2 [p_ 0 3 (m_ 0),p_ 1 4 (.isn false 2 (.t 3))]) (.cond (.t 4) (.seq (g_ 1 [p_ 0 2 (.mv (.c .nilS))]) .ret) .skip)) (.seq (g_ 4 [e_ 0 5 (.bsl 196 3 0 [] [] []),p_ 1 6 (m_ 0),e_ 2 7 (.app 196 3 40 (.t 5) (.t 6)),p_ 3 2 (m_ 7)]) .ret))) [(0,[.bors 2 196 3 bg bb,.frz 2]),(1,[.bors 2 196 3 bg bb,.frz 2])])
theorem Mu:bT Tryz.prog 75 JZ=true:=by kernel_rfl
structure fv where
 h:Value
 l:(List bg)
structure Gg where
 h:Value
 o:(List bg)
def cW (p:fv) (r:Gg):Prop:=r.o=p.l
noncomputable def gS (p:fv):IE:=([.sy (.imm p.h 3 bg p.l bb)],.leaf,0)
noncomputable def zn (p:fv) (K:KE):Bool:=aA fun r:Gg=>iP (cW p r) (K (.sy (.imm r.h 3 bg r.o bb)) .leaf 0) true
def cU (p:fv):Prop:=p.l.length≤300
theorem zZ {p:fv} {K:KE} (hK:zn p K=true) (r:Gg) (h:cW p r):K (.sy (.imm r.h 3 bg r.o bb)) .leaf 0=true:=aP h (aF hK r)
theorem Sf (p:fv) (K:KE) (hpre:cU p) (hK:zn p K=true):(bZ 0 (bH zP) dT 600 JZ (gS p).1 (gS p).2.1 (gS p).2.2 K)=true:=by
 refine Eq.trans (b:=(iP (lF p.h→p.l=[]) (iP (lF p.h) (mP (0=([]:List bg).length) (aA fun h1:Value=>K (.sy (.imm h1 3 bg ([]:List bg) bb)) .leaf 0)) (iP (p.l=[]) (mP (0=([]:List bg).length) (aA fun h2:Value=>K (.sy (.imm h2 3 bg ([]:List bg) bb)) .leaf 0)) (mP (dh 40 p.l.length) (mP (p.l.length=p.l.length) (aA fun h3:Value=>K (.sy (.imm h3 3 bg p.l bb)) .leaf 0))))) true)) (by kernel_rfl) ?_
 dsimp only[cU]at hpre
 refine iI (fun hi1=> ?_) (fun _=>rfl)
 refine iI (fun hc2=> ?_) (fun hc2=> ?_)
 refine az ?_
 refine aB (fun h1=> ?_)
 exact zZ hK ⟨h1,([]:List bg)⟩ (by dsimp only[cW]<;>(first|(simp_all;done)|rfl))
 refine iI (fun hc3=> ?_) (fun hc3=> ?_)
 have hc3l:(p.l).length=0:=(by rw[hc3];rfl)
 refine az ?_
 refine aB (fun h2=> ?_)
 exact zZ hK ⟨h2,([]:List bg)⟩ (by dsimp only[cW]<;>(first|(simp_all;done)|rfl))
 have hc3l:0<(p.l).length:=List.length_pos_iff.2 hc3
 refine mI (by(first|omega|(simp[dh]<;>omega))) (az ?_)
 refine aB (fun h3=> ?_)
 exact zZ hK ⟨h3,p.l⟩ (by dsimp only[cW]<;>(first|(simp_all;done)|rfl))
noncomputable def zO:=bM zP 0 (ce gS (dD cU zn)) 75 [(0,23)]
theorem AN:be Tryz.prog zO:=aY (cX (f:=75) (k:=0) (aT AO) Mu (by rfl) (by rfl) Sf) AO
def Kb:XF:=.mk 8 (.one 2) (.aft (.seq (g_ 1 [p_ 0 2 (.mv (.c .nilS))]) (.seq (.seq (g_ 2 [p_ 0 3 (m_ 0),p_ 1 4 (.isn false 2 (.t 3))]) (.cond (.t 4) (.seq (g_ 1 [p_ 0 2 (.mv (.c .nilS))]) .ret) .skip)) (.seq (g_ 4 [e_ 0 5 (.bsl 71 2 0 [] [] []),p_ 1 6 (m_ 0),e_ 2 7 (.app 71 2 4 (.t 5) (.t 6)),p_ 3 2 (m_ 7)]) .ret))) [(0,[.bors 2 71 2 Proc bJ,.frz 2]),(1,[.bors 2 71 2 Proc bJ,.frz 2])])
theorem Mw:bT Tryz.prog 78 Kb=true:=by kernel_rfl
structure jM where
 h:Value
 l:(List Proc)
structure Gi where
 h:Value
 o:(List Proc)
def fc (p:jM) (r:Gi):Prop:=r.o=p.l
noncomputable def mK (p:jM):IE:=([.sy (.imm p.h 2 Proc p.l bJ)],.leaf,0)
noncomputable def zp (p:jM) (K:KE):Bool:=aA fun r:Gi=>iP (fc p r) (K (.sy (.imm r.h 2 Proc r.o bJ)) .leaf 0) true
def fj (p:jM):Prop:=p.l.length≤20
theorem Ab {p:jM} {K:KE} (hK:zp p K=true) (r:Gi) (h:fc p r):K (.sy (.imm r.h 2 Proc r.o bJ)) .leaf 0=true:=aP h (aF hK r)
theorem Si (p:jM) (K:KE) (hpre:fj p) (hK:zp p K=true):(bZ 0 (bH zO) dT 600 Kb (mK p).1 (mK p).2.1 (mK p).2.2 K)=true:=by
 refine Eq.trans (b:=(iP (lF p.h→p.l=[]) (iP (lF p.h) (mP (0=([]:List Proc).length) (aA fun h1:Value=>K (.sy (.imm h1 2 Proc ([]:List Proc) bJ)) .leaf 0)) (iP (p.l=[]) (mP (0=([]:List Proc).length) (aA fun h2:Value=>K (.sy (.imm h2 2 Proc ([]:List Proc) bJ)) .leaf 0)) (mP (dh 4 p.l.length) (mP (p.l.length=p.l.length) (aA fun h3:Value=>K (.sy (.imm h3 2 Proc p.l bJ)) .leaf 0))))) true)) (by kernel_rfl) ?_
 dsimp only[fj]at hpre
 refine iI (fun hi1=> ?_) (fun _=>rfl)
 refine iI (fun hc2=> ?_) (fun hc2=> ?_)
 refine az ?_
 refine aB (fun h1=> ?_)
 exact Ab hK ⟨h1,([]:List Proc)⟩ (by dsimp only[fc]<;>(first|(simp_all;done)|rfl))
 refine iI (fun hc3=> ?_) (fun hc3=> ?_)
 have hc3l:(p.l).length=0:=(by rw[hc3];rfl)
 refine az ?_
 refine aB (fun h2=> ?_)
 exact Ab hK ⟨h2,([]:List Proc)⟩ (by dsimp only[fc]<;>(first|(simp_all;done)|rfl))
 have hc3l:0<(p.l).length:=List.length_pos_iff.2 hc3
 refine mI (by(first|omega|(simp[dh]<;>omega))) (az ?_)
 refine aB (fun h3=> ?_)
 exact Ab hK ⟨h3,p.l⟩ (by dsimp only[fc]<;>(first|(simp_all;done)|rfl))
noncomputable def zQ:=bM zO 0 (ce mK (dD fj zp)) 78 [(0,23)]
theorem AP:be Tryz.prog zQ:=aY (cX (f:=78) (k:=0) (aT AN) Mw (by rfl) (by rfl) Si) AN
def Ms:XF:=.mk 32 (.cell 2 true 10) (.seq (g_ 2 [e_ 0 1 (.box 45 (.t 0)),e_ 1 2 (.al 75 [.int 1 (.ofNat 0),.int 2 (.ofNat 0),.int 3 (.ofNat 0),.int 1 (.ofNat 0),.int 1 (.ofNat 0),.int 1 (.ofNat 0),.int 1 (.ofNat 0),.int 1 (.ofNat 0),.int 1 (.ofNat 0),.int 1 (.ofNat 0)])]) (.seq (.reg true 10 (.split 2 8 (.leaf [p_ 0 5 (f_ 0 1),r_ 1 6 (.ld true 2 (.t 5)),p_ 3 8 (f_ 2 1),r_ 4 9 (l_ 8),p_ 5 10 (f_ 3 1),r_ 6 11 (l_ 10),c_ 2 7 55 [.t 6],a_ 4 9 (l_ 8),a_ 6 11 (l_ 10),p_ 7 12 (.bld [.int 1 (.ofNat 0),.int 2 (.ofNat 0),.int 3 (.ofNat 0),.int 1 (.ofNat 0),.int 1 (.ofNat 0),.int 1 (.ofNat 0),.int 1 (.ofNat 0),.int 1 (.ofNat 0),.int 1 (.ofNat 0),.int 1 (.ofNat 0)] [(0,2),(2,1),(3,1)] [.t 7,.t 9,.t 11]),e_ 8 3 (.al 75 [.int 1 (.ofNat 0),.int 2 (.ofNat 0),.int 3 (.ofNat 0),.int 1 (.ofNat 0),.int 1 (.ofNat 0),.int 1 (.ofNat 0),.int 1 (.ofNat 0),.int 1 (.ofNat 0),.int 1 (.ofNat 0),.int 1 (.ofNat 0)]),a_ 4 9 (l_ 8),a_ 6 11 (l_ 10),cA 9 (.st 10 (.t 3) (.t 12))]) (.leaf [p_ 0 5 (f_ 0 1),r_ 1 6 (.ld true 2 (.t 5)),p_ 3 8 (f_ 2 1),r_ 4 9 (l_ 8),p_ 5 10 (f_ 3 1),r_ 6 11 (l_ 10),e_ 8 3 (.al 75 [.int 1 (.ofNat 0),.int 2 (.ofNat 0),.int 3 (.ofNat 0),.int 1 (.ofNat 0),.int 1 (.ofNat 0),.int 1 (.ofNat 0),.int 1 (.ofNat 0),.int 1 (.ofNat 0),.int 1 (.ofNat 0),.int 1 (.ofNat 0)]),a_ 1 6 (.ld true 2 (.t 5)),a_ 4 9 (l_ 8),a_ 6 11 (l_ 10),c_ 2 7 55 [.t 6],a_ 4 9 (l_ 8),a_ 6 11 (l_ 10),p_ 7 12 (.bld [.int 1 (.ofNat 0),.int 2 (.ofNat 0),.int 3 (.ofNat 0),.int 1 (.ofNat 0),.int 1 (.ofNat 0),.int 1 (.ofNat 0),.int 1 (.ofNat 0),.int 1 (.ofNat 0),.int 1 (.ofNat 0),.int 1 (.ofNat 0)] [(0,2),(2,1),(3,1)] [.t 7,.t 9,.t 11]),cA 9 (.st 10 (.t 3) (.t 12))]))) (.seq (.seq (g_ 1 [p_ 0 4 (.mv (i_ 0))]) (.block 2 (.loop [1,2,3,4,13,14,15,16,17,18,19,20,21,22,23,24,25,26,27,28,29,30,31] (.seq (.seq (g_ 2 [p_ 0 13 (m_ 4),p_ 1 14 (.bin 3 0 (.t 13) (i_ 3))]) (.cond (.t 14) .skip (.exit 2))) (.seq (.block 3 (h_ 15 [p_ 0 17 (m_ 4),p_ 1 18 (m_ 4),p_ 2 19 (f_ 4 1),p_ 3 20 (.ixa 3 2 (.t 19) (.t 18)),p_ 4 21 (f_ 0 20),r_ 5 22 (l_ 21),p_ 6 23 (m_ 4),p_ 7 24 (f_ 4 1),p_ 8 25 (.ixa 3 2 (.t 24) (.t 23)),p_ 9 26 (f_ 1 25),r_ 10 27 (l_ 26),p_ 11 28 (.bld [.int 1 (.ofNat 0),.int 1 (.ofNat 0)] [(0,1),(1,1)] [.t 22,.t 27]),p_ 12 29 (f_ 4 3),p_ 13 30 (.ixa 3 2 (.t 29) (.t 17)),cA 14 (.st 2 (.t 30) (.t 28))])) (g_ 3 [p_ 0 15 (m_ 4),p_ 1 16 (.bin 0 0 (.t 15) (i_ 1)),p_ 2 4 (m_ 16)])))))) (.seq (g_ 2 [r_ 0 31 (.ld true 10 (.t 3)),cA 1 (.st 10 (.t 2) (.t 31))]) .ret))))
theorem Ov:bT Tryz.prog 48 Ms=true:=by kernel_rfl
structure ka where
 d:ID
noncomputable def pt (p:ka):IE:=([.agg (ee p.d)],.leaf,0)
noncomputable def Jw (p:ka) (K:KE):Bool:=K (.agg (ee p.d)) .leaf 0
theorem Uq (p:ka) (K:KE) (hK:Jw p K=true):(bZ 0 (bH zQ) dT 600 Ms (pt p).1 (pt p).2.1 (pt p).2.2 K)=true:=by
 refine Eq.trans (b:=(ac (mP (((.int 3 p.d.seq):SY)=(.int 3 p.d.seq)) (mP (((.int 1 p.d.depth):SY)=(.int 1 p.d.depth)) (mP (((.int 3 p.d.seq):SY)=(.int 3 p.d.seq)) (mP (((.int 1 p.d.depth):SY)=(.int 1 p.d.depth)) (K (.agg (ee p.d)) .leaf 0))))) (ac (qL [qI 1 p.d.client.node,qI 2 p.d.client.life]) (mP (((.int 3 p.d.seq):SY)=(.int 3 p.d.seq)) (mP (((.int 1 p.d.depth):SY)=(.int 1 p.d.depth)) (mP (((.int 3 p.d.seq):SY)=(.int 3 p.d.seq)) (mP (((.int 1 p.d.depth):SY)=(.int 1 p.d.depth)) (K (.agg (ee p.d)) .leaf 0)))))))) (by kernel_rfl) ?_
 refine aM ?_ ?_
 refine az (az (az (az ?_)))
 exact hK
 refine aM (by simp[qL,qI,qS,qY,au]) ?_
 refine az (az (az (az ?_)))
 exact hK
noncomputable def BH:=bM zQ 0 (ce pt Jw) 48 [(0,15)]
theorem BG:be Tryz.prog BH:=aY (Dd (f:=48) (k:=0) (aT AP) Ov (by rfl) (by rfl) Uq) AP
def Pr:XF:=.mk 23 (.cell 2 true 18) (.seq (g_ 2 [e_ 0 1 (.box 62 (.t 0)),e_ 1 2 (.al 108 [.int 1 (.ofNat 0),.int 1 (.ofNat 0),.int 2 (.ofNat 0),.int 3 (.ofNat 0),.int 1 (.ofNat 0),.int 1 (.ofNat 0),.int 1 (.ofNat 0),.int 1 (.ofNat 0),.int 1 (.ofNat 0),.int 1 (.ofNat 0),.int 1 (.ofNat 0),.int 3 (.ofNat 0),.nilS,.int 1 (.ofNat 0),.str [],.nilS,.int 1 (.ofNat 0),.int 2 (.ofNat 0)])]) (.seq (h_ 21 [p_ 0 3 (f_ 0 1),r_ 1 4 (l_ 3),p_ 2 5 (f_ 1 1),r_ 3 6 (.ld true 10 (.t 5)),p_ 5 8 (f_ 11 1),r_ 6 9 (l_ 8),p_ 7 10 (f_ 12 1),r_ 8 11 (l_ 10),p_ 10 13 (f_ 13 1),r_ 11 14 (.ld true 2 (.t 13)),p_ 13 16 (f_ 15 1),r_ 14 17 (l_ 16),p_ 16 19 (f_ 16 1),r_ 17 20 (.ld true 2 (.t 19)),c_ 4 7 48 [.t 6],a_ 1 4 (l_ 3),a_ 6 9 (l_ 8),a_ 8 11 (l_ 10),a_ 11 14 (.ld true 2 (.t 13)),a_ 14 17 (l_ 16),a_ 17 20 (.ld true 2 (.t 19)),c_ 9 12 49 [.t 11],a_ 1 4 (l_ 3),a_ 6 9 (l_ 8),a_ 11 14 (.ld true 2 (.t 13)),a_ 14 17 (l_ 16),a_ 17 20 (.ld true 2 (.t 19)),c_ 12 15 51 [.t 14],a_ 1 4 (l_ 3),a_ 6 9 (l_ 8),a_ 14 17 (l_ 16),a_ 17 20 (.ld true 2 (.t 19)),c_ 15 18 54 [.t 17],a_ 1 4 (l_ 3),a_ 6 9 (l_ 8),a_ 17 20 (.ld true 2 (.t 19)),c_ 18 21 55 [.t 20],a_ 1 4 (l_ 3),a_ 6 9 (l_ 8),p_ 19 22 (.bld [.int 1 (.ofNat 0),.int 1 (.ofNat 0),.int 2 (.ofNat 0),.int 3 (.ofNat 0),.int 1 (.ofNat 0),.int 1 (.ofNat 0),.int 1 (.ofNat 0),.int 1 (.ofNat 0),.int 1 (.ofNat 0),.int 1 (.ofNat 0),.int 1 (.ofNat 0),.int 3 (.ofNat 0),.nilS,.int 1 (.ofNat 0),.str [],.nilS,.int 1 (.ofNat 0),.int 2 (.ofNat 0)] [(0,1),(1,10),(11,1),(12,1),(13,2),(15,1),(16,2)] [.t 4,.t 7,.t 9,.t 12,.t 15,.t 18,.t 21]),cA 20 (.st 18 (.t 2) (.t 22))]) .ret))
theorem Rc:bT Tryz.prog 20 Pr=true:=by kernel_rfl
structure mO where
 e:ai
structure NA where
 hp:Value
 ps:List aW
 hw:Value
 ws:List bg
def iw (p:mO) (r:NA):Prop:=r.ps=p.e.ps∧r.ws=p.e.ws
noncomputable def qw (p:mO):IE:=([.agg (br p.e)],.leaf,0)
noncomputable def Fa (p:mO) (K:KE):Bool:=aA fun r:NA=>iP (iw p r) (K (.agg (br ({p.e with hp:=r.hp,ps:=r.ps,hw:=r.hw,ws:=r.ws}:ai))) .leaf 0) true
def fQ (p:mO):Prop:=dU p.e
theorem VN {p:mO} {K:KE} (hK:Fa p K=true) (r:NA) (h:iw p r):K (.agg (br ({p.e with hp:=r.hp,ps:=r.ps,hw:=r.hw,ws:=r.ws}:ai))) .leaf 0=true:=aP h (aF hK r)
theorem Xi (p:mO) (K:KE) (hpre:fQ p) (hK:Fa p K=true):(bZ 0 (bH BH) dT 600 Pr (qw p).1 (qw p).2.1 (qw p).2.2 K)=true:=by
 refine Eq.trans (b:=(aI fun p1:ka=>mP (([.agg (ee p.e.id)],.leaf,0)=pt p1) (mP (((.int 1 p.e.kind):SY)=(.int 1 p.e.kind)) (mP (((.int 3 p.e.floor):SY)=(.int 3 p.e.floor)) (mP (((.imm p.e.hp 5 aW p.e.ps encP):SY)=(.imm p.e.hp 5 aW p.e.ps encP)) (ac (qL [qI 1 p.e.rc,qS p.e.rv]) (mP (((.imm p.e.hw 3 bg p.e.ws bb):SY)=(.imm p.e.hw 3 bg p.e.ws bb)) (ac (qL [qI 1 p.e.vic.node,qI 2 p.e.vic.life]) (aX (([.sy (.imm p.e.hp 5 aW p.e.ps encP)],.leaf,0)) tV lS oB fun p2 r1=>mP (((.int 1 p.e.kind):SY)=(.int 1 p.e.kind)) (mP (((.int 3 p.e.floor):SY)=(.int 3 p.e.floor)) (ac (qL [qI 1 p.e.rc,qS p.e.rv]) (mP (((.imm p.e.hw 3 bg p.e.ws bb):SY)=(.imm p.e.hw 3 bg p.e.ws bb)) (ac (qL [qI 1 p.e.vic.node,qI 2 p.e.vic.life]) (mP (((.int 1 p.e.kind):SY)=(.int 1 p.e.kind)) (mP (((.int 3 p.e.floor):SY)=(.int 3 p.e.floor)) (mP (((.imm p.e.hw 3 bg p.e.ws bb):SY)=(.imm p.e.hw 3 bg p.e.ws bb)) (ac (qL [qI 1 p.e.vic.node,qI 2 p.e.vic.life]) (aX (([.sy (.imm p.e.hw 3 bg p.e.ws bb)],.leaf,0)) vh pI rZ fun p3 r2=>mP (((.int 1 p.e.kind):SY)=(.int 1 p.e.kind)) (mP (((.int 3 p.e.floor):SY)=(.int 3 p.e.floor)) (ac (qL [qI 1 p.e.vic.node,qI 2 p.e.vic.life]) (mP (((.int 1 p.e.kind):SY)=(.int 1 p.e.kind)) (mP (((.int 3 p.e.floor):SY)=(.int 3 p.e.floor)) (K (.agg (br ({p.e with id:=p1.d,hp:=r1.h,ps:=r1.o,hw:=r2.h,ws:=r2.o}:ai))) .leaf 0))))))))))))))))))))))) (by kernel_rfl) ?_
 dsimp only[fQ]at hpre
 obtain⟨u1,u2⟩:=hpre
 refine aG (⟨p.e.id⟩:ka) ?_
 refine az (az (az (az ?_)))
 refine aM (by simp[qL,qI,qS,qY,au]) ?_
 refine az ?_
 refine aM (by simp[qL,qI,qS,qY,au]) ?_
 refine aJ (⟨p.e.hp,p.e.ps⟩:pw) rfl (by(try dsimp only[lS]);have:=u1.1;omega) fun r1 hi1=> ?_
 dsimp only[oB]at hi1
 refine az (az ?_)
 refine aM (by simp[qL,qI,qS,qY,au]) ?_
 refine az ?_
 refine aM (by simp[qL,qI,qS,qY,au]) ?_
 refine az (az (az ?_))
 refine aM (by simp[qL,qI,qS,qY,au]) ?_
 refine aJ (⟨p.e.hw,p.e.ws⟩:oP) rfl (by(try dsimp only[pI]);exact u2) fun r2 hi2=> ?_
 dsimp only[rZ]at hi2
 refine az (az ?_)
 refine aM (by simp[qL,qI,qS,qY,au]) ?_
 refine az (az ?_)
 exact VN hK ⟨r1.h,r1.o,r2.h,r2.o⟩ (by dsimp only[iw]<;>exact⟨by assumption,by assumption⟩)
noncomputable def zG:=bM BH 0 (ce qw (dD fQ Fa)) 20 [(0,15)]
theorem wS:be Tryz.prog zG:=aY (cX (f:=20) (k:=0) (aT BG) Rc (by rfl) (by rfl) Xi) BG
def jS (x:BgR):Prop:=UW x∧x.ps.length≤2932031007402
def lE (x:EdR):Prop:=UV x∧x.rv.length≤2000
def bp (x:ai):Prop:=fg x∧dU x
def fh (m:List ID) (b:List BgR):Prop:=m=b.map BgR.id∧∀x∈b,jS x
def eS (m:List ID) (e:List EdR):Prop:=m=e.map EdR.id∧(∀x∈e,lE x)∧(e.map EdR.id).Nodup
noncomputable def td (l:List BgK) (x:BgK):List BgK:= @ite _ (∃y∈l,y.id=x.id) (Classical.propDecidable _) l (l++[x])
noncomputable def qp (B:List BgK) (l:List EdR) (x:EdR):List EdR:= @ite _ ((∃y∈B,y.id=x.id)∧¬∃y∈l,y.id=x.id) (Classical.propDecidable _) (l++[x]) l
def mH (l:List lJ) (a:Int) (x:lJ):List lJ:=if a=(l.length:Int) then l++[x] else l
theorem jJ {α:Type} {R:α→Prop} {l:List α} {x:α} (h:∀y∈l,R y) (hx:R x):∀y∈l++[x],R y:=fun y hy=>by
 rcases List.mem_append.1 hy with hy|hy
 ·exact h y hy
 ·rw[List.mem_singleton.1 hy];exact hx
theorem ex_bgk {b:List BgR} {d:ID}:(∃y∈b.map bN,y.id=d)↔∃y∈b,y.id=d:=
 ⟨fun⟨y,hy,e⟩=>by obtain⟨x,hx,rfl⟩:=List.mem_map.1 hy;exact⟨x,hx,e⟩,fun⟨x,hx,e⟩=>⟨bN x,List.mem_map.2 ⟨x,hx,rfl⟩,e⟩⟩
theorem gD {m:List ID} {b:List BgR} {d y:ID} (h:fh m b) (hy:y∈m∧dj d y):∃x∈b,x.id=d:=by
 rw[h.1]at hy
 obtain⟨hy,rfl⟩:=hy
 obtain⟨x,hx,e⟩:=List.mem_map.1 hy
 exact⟨x,hx,e⟩
theorem iJ {m:List ID} {b:List BgR} {d:ID} (h:fh m b) (hy:∀y∈m,¬dj d y):¬∃x∈b,x.id=d:=fun⟨x,hx,e⟩=>by
 rw[h.1]at hy
 exact hy x.id (List.mem_map.2 ⟨x,hx,rfl⟩) e
theorem SX {m:List ID} {b:List EdR} {d y:ID} (h:eS m b) (hy:y∈m∧dj d y):∃x∈b,x.id=d:=by
 rw[h.1]at hy
 obtain⟨hy,rfl⟩:=hy
 obtain⟨x,hx,e⟩:=List.mem_map.1 hy
 exact⟨x,hx,e⟩
theorem Vj {m:List ID} {b:List EdR} {d:ID} (h:eS m b) (hy:∀y∈m,¬dj d y):¬∃x∈b,x.id=d:=fun⟨x,hx,e⟩=>by
 rw[h.1]at hy
 exact hy x.id (List.mem_map.2 ⟨x,hx,rfl⟩) e
theorem su {m:List ID} {d:ID} (h:m=[]):∀y∈m,¬dj d y:=fun y hy=>by rw[h]at hy;cases hy
theorem DB {m m':List ID} {b:List BgR} {v v':BgR} (h:fh m b) (hn:∀y∈m,¬dj v.id y) (hv:jS v') (e:bN v'=bN v) (e2:m'=m++[v.id]):(b++[v']).map bN=td (b.map bN) (bN v)∧fh m' (b++[v'])∧(b++[v']).length≤b.length+1:=by
 refine⟨?_,⟨?_,jJ h.2 hv⟩,by simp⟩
 ·unfold td
  rw[if_neg (show¬∃y∈b.map bN,y.id=(bN v).id from fun q=>iJ h hn (ex_bgk.1 q)),acR,acJ,e];rfl
 ·rw[e2,h.1,acR]
  have e3:v'.id=v.id:=congrArg BgK.id e
  simp[e3]
theorem RH {m:List ID} {b:List BgR} {v:BgR} {y:ID} (h:fh m b) (hy:y∈m∧dj v.id y):b.map bN=td (b.map bN) (bN v)∧fh m b∧b.length≤b.length+1:=by
 refine⟨?_,h,by omega⟩
 unfold td
 rw[if_pos (show∃y∈b.map bN,y.id=(bN v).id from ex_bgk.2 (gD h hy))]
theorem xi {m:List ID} {e:List EdR} {B:List BgK} {v:EdR} (h:eS m e) (hn:¬∃y∈B,y.id=v.id):e=qp B e v∧eS m e∧e.length≤e.length+1:=by
 refine⟨?_,h,by omega⟩
 unfold qp
 rw[if_neg (fun q=>hn q.1)]
theorem Hk {m:List ID} {e:List EdR} {B:List BgK} {v:EdR} {y:ID} (h:eS m e) (hy:y∈m∧dj v.id y):e=qp B e v∧eS m e∧e.length≤e.length+1:=by
 refine⟨?_,h,by omega⟩
 unfold qp
 rw[if_neg (fun q=>q.2 (SX h hy))]
theorem rM {m m':List ID} {e:List EdR} {B:List BgK} {v:EdR} (h:eS m e) (hb:∃y∈B,y.id=v.id) (hn:∀y∈m,¬dj v.id y) (hv:lE v) (e2:m'=m++[v.id]):(e++[v])=qp B e v∧eS m' (e++[v])∧(e++[v]).length≤e.length+1:=by
 have q:=Vj h hn
 refine⟨?_,⟨?_,jJ h.2.1 hv,?_⟩,by simp⟩
 ·unfold qp
  rw[if_pos ⟨hb,q⟩]
 ·rw[e2,h.1,acR];rfl
 ·rw[acR,List.nodup_append]
  refine⟨h.2.2,by simp,fun a ha b hb e=> ?_⟩
  obtain⟨x,hx,rfl⟩:=List.mem_map.1 ha
  simp only[acJ,List.map_nil,List.mem_singleton]at hb
  exact q ⟨x,hx,by rw[e,hb]⟩
theorem cN {l:List ai} {v v':ai} {a:Int} (h:∀x∈l,bp x) (hv:bp v') (e:aq v'=aq v) (ha:a=(l.length:Int)):(l++[v']).map aq=mH (l.map aq) a (aq v)∧(∀x∈l++[v'],bp x)∧(l++[v']).length≤l.length+1:=by
 refine⟨?_,jJ h hv,by simp⟩
 unfold mH
 rw[if_pos (by rw[List.length_map];exact ha),acR,acJ,e];rfl
theorem cR {l:List ai} {v:ai} {a:Int} (h:∀x∈l,bp x) (ha:¬a=(l.length:Int)):l.map aq=mH (l.map aq) a (aq v)∧(∀x∈l,bp x)∧l.length≤l.length+1:=by
 refine⟨?_,h,by omega⟩
 unfold mH
 rw[if_neg (by rw[List.length_map];exact ha)]
noncomputable def AR (us:List AV) (a j:Nat):Bool:=match fF us a with
 |some (.int _ (.ofNat z))=>Nat.beq z j
 |_=>false
def FQ:XC:=(.aft (.seq (g_ 1 [p_ 0 14 (.bin 3 0 (.t 13) (.t 12))]) (.seq (.cond (.t 14) .skip (.exit 2)) (.seq (.block 3 (.seq (g_ 2 [p_ 0 15 (m_ 13),p_ 1 5 (m_ 15)]) (.seq (h_ 9 [p_ 0 16 (m_ 0),p_ 1 17 (m_ 5),p_ 2 18 (.ixs 5 (.t 16) (.t 17)),r_ 3 19 (.ld true 5 (.t 18)),p_ 4 20 (m_ 1),p_ 5 21 (m_ 5),p_ 6 22 (.ixs 5 (.t 20) (.t 21)),r_ 7 23 (.ld true 5 (.t 22)),p_ 8 24 (.eqs true 2 (.st [(0,1,false,.int),(1,1,false,.int),(2,1,false,.str),(3,1,false,.str),(4,1,false,.int)]) (.t 19) (.t 23))]) (.cond (.t 24) (.seq (g_ 1 [p_ 0 4 (.mv (.c (.bool false)))]) .ret) .skip)))) (g_ 2 [p_ 0 25 (.bin 0 0 (.t 13) (i_ 1)),p_ 1 13 (m_ 25)])))) [(0,[.can 0 [0,1,12,13]]),(1,[.can 0 [4]]),(2,[.can 0 []])])
def TH:XF:=.mk 26 (.one 4) (.aft (.seq (g_ 1 [p_ 0 4 (.mv (.c (.bool false)))]) (.seq (.seq (g_ 5 [p_ 0 6 (m_ 0),p_ 1 7 (k_ 6),p_ 2 8 (m_ 1),p_ 3 9 (k_ 8),p_ 4 10 (.bin 3 5 (.t 7) (.t 9))]) (.cond (.t 10) (.seq (g_ 1 [p_ 0 4 (.mv (.c (.bool false)))]) .ret) .skip)) (.seq (.seq (g_ 3 [p_ 0 11 (m_ 0),p_ 1 12 (k_ 11),p_ 2 13 (.mv (i_ 0))]) (.block 2 (.pre [.can 0 [0,1,12,13],.up 12,.up 13,.can 0 [0,1,12,13]] (.inv 0 FQ)))) (.seq (g_ 1 [p_ 0 4 (.mv (.c (.bool true)))]) .ret)))) [(0,[.up 4]),(1,[.up 4])])
theorem TG:bT Tryz.prog 86 TH=true:=by kernel_rfl
structure kg where
 h1:Value
 l1:(List aW)
 h2:Value
 l2:(List aW)
 i:Int
noncomputable def nG (p:kg):IL:=((.cons 13 (.sy (.int 0 p.i)) (.cons 12 (.sy (.int 0 (p.l1.length:Int))) (.cons 1 (.sy (.imm p.h2 5 aW p.l2 encP)) (.cons 0 (.sy (.imm p.h1 5 aW p.l1 encP)) .nil)))),.leaf,0)
noncomputable def Bs (p:kg) (K:KC):Bool:=ac (K 2 .nil .leaf 0) (K 1 (.cons 4 (.bool false) .nil) .leaf 0)
def lY (p:kg):Prop:=p.l1.length=p.l2.length∧0≤p.i∧p.i≤(p.l1.length:Int)∧p.l1.length≤1000000
noncomputable def yD (p:kg) (K:KC):Bool:=ac (au (lY p)) (Bs p K)
noncomputable def GT:ft:=fun j S M nx K=>(Bool.rec (false) (aI fun p:kg=>ac (au ((S,M,nx)=nG p)) (yD p K)) (Nat.beq j 0))
def kN (p:kg):Nat:=((p.l1.length:Int) - p.i).toNat
noncomputable def Nq (s:IL) (n:Nat) (K:KC):Bool:=aI fun q=>mP (s=nG q∧kN q<n) (yD q K)
theorem Wi {p q:kg} {K:KC} {s:IL} (hm:kN q<kN p:=by dsimp only[kN]<;>(omega)) (hp:lY q:=by dsimp only[lY]<;>(refine⟨g0,by omega,by omega,g3⟩)) (hK:Bs q K=true:=by exact(by first|exact hK|exact aM hK0 hK1)) (e:s=nG q:=by rfl):Nq s (kN p) K=true:=aG q (bf ⟨e,hm⟩ (bf hp hK))
theorem UD (p:kg) (K:KC) (hpre:lY p) (hK:Bs p K=true):(cQ (bH zG) GT 600 FQ (nG p).1 (nG p).2.1 (nG p).2.2 (fun e S M nx=>Nat.casesOn e (aI fun q:kg=>ac (au ((S,M,nx)=nG q∧kN q<kN p)) (yD q K)) (fun e2=>K (Nat.succ e2) S M nx)))=true:=by
 refine Eq.trans (b:=(iP (p.i<(p.l1.length:Int)) (mP (0≤p.i∧p.i<(p.l1.length:Int)) (aA fun x1:aW=>iP (p.l1[p.i.toNat]?=some x1) (mP (0≤p.i∧p.i<(p.l2.length:Int)) (aA fun x2:aW=>iP (p.l2[p.i.toNat]?=some x2) (Dv x1 x2 (mP (aL 0 (p.i+(1:Int))) (Nq ((.cons 13 (.sy (.int 0 (p.i+(1:Int)))) (.cons 12 (.sy (.int 0 (p.l1.length:Int))) (.cons 1 (.sy (.imm p.h2 5 aW p.l2 encP)) (.cons 0 (.sy (.imm p.h1 5 aW p.l1 encP)) .nil)))),.leaf,0) (kN p) K)) (K 1 (.cons 4 (.bool false) .nil) .leaf 0)) true)) true)) (K 2 .nil .leaf 0))) (by kernel_rfl) ?_
 obtain⟨hK0,hKr0⟩:=aw hK
 have hK1:=hKr0
 dsimp only[lY]at hpre
 obtain⟨g0,g1,g2,g3⟩:=hpre
 refine iI (fun hc1=> ?_) (fun hc1=> ?_)
 refine dL ?_
 refine aB (fun x1=> ?_)
 refine iI (fun hi2=> ?_) (fun _=>rfl)
 refine dL ?_
 refine aB (fun x2=> ?_)
 refine iI (fun hi3=> ?_) (fun _=>rfl)
 refine Hn (fun hc4=> ?_) (fun hc4=> ?_)
 refine aN ?_
 exact Wi (q:=⟨p.h1,p.l1,p.h2,p.l2,p.i+(1:Int)⟩)
 exact hK1
 exact hK0
theorem Vx:dI Tryz.prog 26 0 GT true 0 FQ:=by
 exact dM (lf:=600) bv (aT wS) (by rfl) nG kN yD (fun b j x h=>by cases h) (fun S M nx K h=>by obtain⟨p,h⟩:=bL h;exact⟨p,(aa h).1,(aa h).2⟩) (fun p K h=>UD p K (aa h).1 (aa h).2)
structure DL where
 h1:Value
 l1:(List aW)
 h2:Value
 l2:(List aW)
structure HH where
 q:Prop
noncomputable def HM (p:DL):IE:=([.sy (.imm p.h1 5 aW p.l1 encP),.sy (.imm p.h2 5 aW p.l2 encP)],.leaf,0)
noncomputable def OY (p:DL) (K:KE):Bool:=aA fun r:HH=>K (.sy (.bool r.q)) .leaf 0
def xH (p:DL):Prop:=p.l1.length≤1000000∧p.l2.length≤1000000
theorem YV (p:DL) (K:KE) (hpre:xH p) (hK:OY p K=true):(bZ 0 (bH zG) GT 600 TH (HM p).1 (HM p).2.1 (HM p).2.2 K)=true:=by
 refine Eq.trans (b:=(iP (¬(p.l1.length:Int)=(p.l2.length:Int)) (K (.sy (.bool (false=true))) .leaf 0) (aI fun p1:kg=>mP (((.cons 13 (.sy (.int 0 0)) (.cons 12 (.sy (.int 0 (p.l1.length:Int))) (.cons 1 (.sy (.imm p.h2 5 aW p.l2 encP)) (.cons 0 (.sy (.imm p.h1 5 aW p.l1 encP)) .nil)))),.leaf,0)=nG p1) (mP (lY p1) (ac (K (.sy (.bool (true=true))) .leaf 0) (K (.sy (.bool (false=true))) .leaf 0)))))) (by kernel_rfl) ?_
 dsimp only[xH]at hpre
 obtain⟨u1,u2⟩:=hpre
 refine iI (fun hc1=> ?_) (fun hc1=> ?_)
 exact aF hK (⟨false=true⟩:HH)
 refine dG (⟨p.h1,p.l1,p.h2,p.l2,(0:Int)⟩:kg) rfl (by(try dsimp only[lY]);refine⟨by omega,by omega,by omega,by omega⟩) ?_
 refine aM ?_ ?_
 exact aF hK (⟨true=true⟩:HH)
 exact aF hK (⟨false=true⟩:HH)
noncomputable def Da:=bM zG 0 (ce HM (dD xH OY)) 86 [(0,23),(1,23)]
theorem zL:be Tryz.prog Da:=aY (bV (f:=86) (k:=0) (lp:=GT) (lf:=600) bv (aT wS) TG (by rfl) (fun b j x h=>(cd Vx (fun h=>(by cases h)) h)) fun p K h=>YV p K (aa h).1 (aa h).2) wS
def FP:XC:=(.aft (.seq (g_ 1 [p_ 0 14 (.bin 3 0 (.t 13) (.t 12))]) (.seq (.cond (.t 14) .skip (.exit 2)) (.seq (.block 3 (.seq (g_ 2 [p_ 0 15 (m_ 13),p_ 1 5 (m_ 15)]) (.seq (h_ 9 [p_ 0 16 (m_ 0),p_ 1 17 (m_ 5),p_ 2 18 (.ixs 3 (.t 16) (.t 17)),r_ 3 19 (.ld true 3 (.t 18)),p_ 4 20 (m_ 1),p_ 5 21 (m_ 5),p_ 6 22 (.ixs 3 (.t 20) (.t 21)),r_ 7 23 (.ld true 3 (.t 22)),p_ 8 24 (.eqs true 2 (.st [(0,1,false,.str),(1,1,false,.str),(2,1,false,.bool)]) (.t 19) (.t 23))]) (.cond (.t 24) (.seq (g_ 1 [p_ 0 4 (.mv (.c (.bool false)))]) .ret) .skip)))) (g_ 2 [p_ 0 25 (.bin 0 0 (.t 13) (i_ 1)),p_ 1 13 (m_ 25)])))) [(0,[.can 0 [0,1,12,13]]),(1,[.can 0 [4]]),(2,[.can 0 []])])
def TF:XF:=.mk 26 (.one 4) (.aft (.seq (g_ 1 [p_ 0 4 (.mv (.c (.bool false)))]) (.seq (.seq (g_ 5 [p_ 0 6 (m_ 0),p_ 1 7 (k_ 6),p_ 2 8 (m_ 1),p_ 3 9 (k_ 8),p_ 4 10 (.bin 3 5 (.t 7) (.t 9))]) (.cond (.t 10) (.seq (g_ 1 [p_ 0 4 (.mv (.c (.bool false)))]) .ret) .skip)) (.seq (.seq (g_ 3 [p_ 0 11 (m_ 0),p_ 1 12 (k_ 11),p_ 2 13 (.mv (i_ 0))]) (.block 2 (.pre [.can 0 [0,1,12,13],.up 12,.up 13,.can 0 [0,1,12,13]] (.inv 0 FP)))) (.seq (g_ 1 [p_ 0 4 (.mv (.c (.bool true)))]) .ret)))) [(0,[.up 4]),(1,[.up 4])])
theorem TE:bT Tryz.prog 77 TF=true:=by kernel_rfl
structure ke where
 h1:Value
 l1:(List bg)
 h2:Value
 l2:(List bg)
 i:Int
noncomputable def nF (p:ke):IL:=((.cons 13 (.sy (.int 0 p.i)) (.cons 12 (.sy (.int 0 (p.l1.length:Int))) (.cons 1 (.sy (.imm p.h2 3 bg p.l2 bb)) (.cons 0 (.sy (.imm p.h1 3 bg p.l1 bb)) .nil)))),.leaf,0)
noncomputable def Br (p:ke) (K:KC):Bool:=ac (K 2 .nil .leaf 0) (K 1 (.cons 4 (.bool false) .nil) .leaf 0)
def lX (p:ke):Prop:=p.l1.length=p.l2.length∧0≤p.i∧p.i≤(p.l1.length:Int)∧p.l1.length≤1000000
noncomputable def yC (p:ke) (K:KC):Bool:=ac (au (lX p)) (Br p K)
noncomputable def GR:ft:=fun j S M nx K=>(Bool.rec (false) (aI fun p:ke=>ac (au ((S,M,nx)=nF p)) (yC p K)) (Nat.beq j 0))
def jF (p:ke):Nat:=((p.l1.length:Int) - p.i).toNat
noncomputable def FR (s:IL) (n:Nat) (K:KC):Bool:=aI fun q=>mP (s=nF q∧jF q<n) (yC q K)
theorem Nk {p q:ke} {K:KC} {s:IL} (hm:jF q<jF p:=by dsimp only[jF]<;>(omega)) (hp:lX q:=by dsimp only[lX]<;>(refine⟨g0,by omega,by omega,g3⟩)) (hK:Br q K=true:=by exact(by first|exact hK|exact aM hK0 hK1)) (e:s=nF q:=by rfl):FR s (jF p) K=true:=aG q (bf ⟨e,hm⟩ (bf hp hK))
theorem UC (p:ke) (K:KC) (hpre:lX p) (hK:Br p K=true):(cQ (bH Da) GR 600 FP (nF p).1 (nF p).2.1 (nF p).2.2 (fun e S M nx=>Nat.casesOn e (aI fun q:ke=>ac (au ((S,M,nx)=nF q∧jF q<jF p)) (yC q K)) (fun e2=>K (Nat.succ e2) S M nx)))=true:=by
 refine Eq.trans (b:=(let z0:Bool:=(K 1 (.cons 4 (.bool false) .nil) .leaf 0);iP (p.i<(p.l1.length:Int)) (mP (0≤p.i∧p.i<(p.l1.length:Int)) (aA fun x1:bg=>iP (p.l1[p.i.toNat]?=some x1) (mP (0≤p.i∧p.i<(p.l2.length:Int)) (aA fun x2:bg=>iP (p.l2[p.i.toNat]?=some x2) (iP (x1.key=x2.key) (iP (x1.val=x2.val) (iP (x1.has) (iP (x2.has) (mP (aL 0 (p.i+(1:Int))) (FR ((.cons 13 (.sy (.int 0 (p.i+(1:Int)))) (.cons 12 (.sy (.int 0 (p.l1.length:Int))) (.cons 1 (.sy (.imm p.h2 3 bg p.l2 bb)) (.cons 0 (.sy (.imm p.h1 3 bg p.l1 bb)) .nil)))),.leaf,0) (jF p) K)) z0) (iP (x2.has) z0 (mP (aL 0 (p.i+(1:Int))) (FR ((.cons 13 (.sy (.int 0 (p.i+(1:Int)))) (.cons 12 (.sy (.int 0 (p.l1.length:Int))) (.cons 1 (.sy (.imm p.h2 3 bg p.l2 bb)) (.cons 0 (.sy (.imm p.h1 3 bg p.l1 bb)) .nil)))),.leaf,0) (jF p) K)))) z0) z0) true)) true)) (K 2 .nil .leaf 0))) (by kernel_rfl) ?_
 obtain⟨hK0,hKr0⟩:=aw hK
 have hK1:=hKr0
 dsimp only[lX]at hpre
 obtain⟨g0,g1,g2,g3⟩:=hpre
 refine iI (fun hc1=> ?_) (fun hc1=> ?_)
 refine dL ?_
 refine aB (fun x1=> ?_)
 refine iI (fun hi2=> ?_) (fun _=>rfl)
 refine dL ?_
 refine aB (fun x2=> ?_)
 refine iI (fun hi3=> ?_) (fun _=>rfl)
 refine iI (fun hc4=> ?_) (fun hc4=> ?_)
 refine iI (fun hc5=> ?_) (fun hc5=> ?_)
 refine iI (fun hc6=> ?_) (fun hc6=> ?_)
 refine iI (fun hc7=> ?_) (fun hc7=> ?_)
 refine aN ?_
 exact Nk (q:=⟨p.h1,p.l1,p.h2,p.l2,p.i+(1:Int)⟩)
 exact hK1
 refine iI (fun hc8=> ?_) (fun hc8=> ?_)
 exact hK1
 refine aN ?_
 exact Nk (q:=⟨p.h1,p.l1,p.h2,p.l2,p.i+(1:Int)⟩)
 exact hK1
 exact hK1
 exact hK0
theorem Vw:dI Tryz.prog 26 0 GR true 0 FP:=by
 exact dM (lf:=600) bv (aT zL) (by rfl) nF jF yC (fun b j x h=>by cases h) (fun S M nx K h=>by obtain⟨p,h⟩:=bL h;exact⟨p,(aa h).1,(aa h).2⟩) (fun p K h=>UC p K (aa h).1 (aa h).2)
structure DK where
 h1:Value
 l1:(List bg)
 h2:Value
 l2:(List bg)
structure HG where
 q:Prop
noncomputable def HL (p:DK):IE:=([.sy (.imm p.h1 3 bg p.l1 bb),.sy (.imm p.h2 3 bg p.l2 bb)],.leaf,0)
noncomputable def OX (p:DK) (K:KE):Bool:=aA fun r:HG=>K (.sy (.bool r.q)) .leaf 0
def xG (p:DK):Prop:=p.l1.length≤1000000∧p.l2.length≤1000000
theorem YU (p:DK) (K:KE) (hpre:xG p) (hK:OX p K=true):(bZ 0 (bH Da) GR 600 TF (HL p).1 (HL p).2.1 (HL p).2.2 K)=true:=by
 refine Eq.trans (b:=(iP (¬(p.l1.length:Int)=(p.l2.length:Int)) (K (.sy (.bool (false=true))) .leaf 0) (aI fun p1:ke=>mP (((.cons 13 (.sy (.int 0 0)) (.cons 12 (.sy (.int 0 (p.l1.length:Int))) (.cons 1 (.sy (.imm p.h2 3 bg p.l2 bb)) (.cons 0 (.sy (.imm p.h1 3 bg p.l1 bb)) .nil)))),.leaf,0)=nF p1) (mP (lX p1) (ac (K (.sy (.bool (true=true))) .leaf 0) (K (.sy (.bool (false=true))) .leaf 0)))))) (by kernel_rfl) ?_
 dsimp only[xG]at hpre
 obtain⟨u1,u2⟩:=hpre
 refine iI (fun hc1=> ?_) (fun hc1=> ?_)
 exact aF hK (⟨false=true⟩:HG)
 refine dG (⟨p.h1,p.l1,p.h2,p.l2,(0:Int)⟩:ke) rfl (by(try dsimp only[lX]);refine⟨by omega,by omega,by omega,by omega⟩) ?_
 refine aM ?_ ?_
 exact aF hK (⟨true=true⟩:HG)
 exact aF hK (⟨false=true⟩:HG)
noncomputable def CZ:=bM Da 0 (ce HL (dD xG OX)) 77 [(0,23),(1,23)]
theorem zK:be Tryz.prog CZ:=aY (bV (f:=77) (k:=0) (lp:=GR) (lf:=600) bv (aT zL) TE (by rfl) (fun b j x h=>(cd Vw (fun h=>(by cases h)) h)) fun p K h=>YU p K (aa h).1 (aa h).2) zL
def FM:XC:=(.aft (.seq (.seq (g_ 4 [p_ 0 11 (m_ 5),p_ 1 12 (m_ 0),p_ 2 13 (k_ 12),p_ 3 14 (.bin 3 0 (.t 11) (.t 13))]) (.cond (.t 14) .skip (.exit 2))) (.seq (.block 3 (.seq (h_ 9 [p_ 0 17 (m_ 0),p_ 1 18 (m_ 5),p_ 2 19 (.ixs 5 (.t 17) (.t 18)),r_ 3 20 (.ld true 5 (.t 19)),p_ 4 21 (m_ 1),p_ 5 22 (m_ 5),p_ 6 23 (.ixs 5 (.t 21) (.t 22)),r_ 7 24 (.ld true 5 (.t 23)),p_ 8 25 (.eqs true 2 (.st [(0,1,false,.int),(1,1,false,.int),(2,1,false,.str),(3,1,false,.str),(4,1,false,.int)]) (.t 20) (.t 24))]) (.cond (.t 25) (.seq (g_ 1 [p_ 0 4 (.mv (.c (.bool false)))]) .ret) .skip))) (g_ 3 [p_ 0 15 (m_ 5),p_ 1 16 (.bin 0 0 (.t 15) (i_ 1)),p_ 2 5 (m_ 16)]))) [(0,[.can 0 [0,1,5]]),(1,[.can 0 [4]]),(2,[.can 0 []])])
def Tz:XF:=.mk 26 (.one 4) (.aft (.seq (g_ 1 [p_ 0 4 (.mv (.c (.bool false)))]) (.seq (.seq (g_ 5 [p_ 0 6 (m_ 0),p_ 1 7 (k_ 6),p_ 2 8 (m_ 1),p_ 3 9 (k_ 8),p_ 4 10 (.bin 3 5 (.t 7) (.t 9))]) (.cond (.t 10) (.seq (g_ 1 [p_ 0 4 (.mv (.c (.bool false)))]) .ret) .skip)) (.seq (.seq (g_ 1 [p_ 0 5 (.mv (i_ 0))]) (.block 2 (.pre [.can 0 [0,1,5],.up 5,.can 0 [0,1,5]] (.inv 0 FM)))) (.seq (g_ 1 [p_ 0 4 (.mv (.c (.bool true)))]) .ret)))) [(0,[.up 4]),(1,[.up 4])])
theorem Tx:bT Tryz.prog 80 Tz=true:=by kernel_rfl
structure kc where
 h1:Value
 l1:(List aW)
 h2:Value
 l2:(List aW)
 i:Int
noncomputable def nB (p:kc):IL:=((.cons 5 (.sy (.int 0 p.i)) (.cons 1 (.sy (.imm p.h2 5 aW p.l2 encP)) (.cons 0 (.sy (.imm p.h1 5 aW p.l1 encP)) .nil))),.leaf,0)
noncomputable def Bq (p:kc) (K:KC):Bool:=ac (K 2 .nil .leaf 0) (K 1 (.cons 4 (.bool false) .nil) .leaf 0)
def lU (p:kc):Prop:=p.l1.length=p.l2.length∧0≤p.i∧p.i≤(p.l1.length:Int)∧p.l1.length≤1000000
noncomputable def yz (p:kc) (K:KC):Bool:=ac (au (lU p)) (Bq p K)
noncomputable def GO:ft:=fun j S M nx K=>(Bool.rec (false) (aI fun p:kc=>ac (au ((S,M,nx)=nB p)) (yz p K)) (Nat.beq j 0))
def kK (p:kc):Nat:=((p.l1.length:Int) - p.i).toNat
noncomputable def Nn (s:IL) (n:Nat) (K:KC):Bool:=aI fun q=>mP (s=nB q∧kK q<n) (yz q K)
theorem We {p q:kc} {K:KC} {s:IL} (hm:kK q<kK p:=by dsimp only[kK]<;>(omega)) (hp:lU q:=by dsimp only[lU]<;>(refine⟨g0,by omega,by omega,g3⟩)) (hK:Bq q K=true:=by exact(by first|exact hK|exact aM hK0 hK1)) (e:s=nB q:=by rfl):Nn s (kK p) K=true:=aG q (bf ⟨e,hm⟩ (bf hp hK))
theorem Ux (p:kc) (K:KC) (hpre:lU p) (hK:Bq p K=true):(cQ (bH CZ) GO 600 FM (nB p).1 (nB p).2.1 (nB p).2.2 (fun e S M nx=>Nat.casesOn e (aI fun q:kc=>ac (au ((S,M,nx)=nB q∧kK q<kK p)) (yz q K)) (fun e2=>K (Nat.succ e2) S M nx)))=true:=by
 refine Eq.trans (b:=(iP (p.i<(p.l1.length:Int)) (mP (0≤p.i∧p.i<(p.l1.length:Int)) (aA fun x1:aW=>iP (p.l1[p.i.toNat]?=some x1) (mP (0≤p.i∧p.i<(p.l2.length:Int)) (aA fun x2:aW=>iP (p.l2[p.i.toNat]?=some x2) (Dv x1 x2 (mP (aL 0 (p.i+(1:Int))) (Nn ((.cons 5 (.sy (.int 0 (p.i+(1:Int)))) (.cons 1 (.sy (.imm p.h2 5 aW p.l2 encP)) (.cons 0 (.sy (.imm p.h1 5 aW p.l1 encP)) .nil))),.leaf,0) (kK p) K)) (K 1 (.cons 4 (.bool false) .nil) .leaf 0)) true)) true)) (K 2 .nil .leaf 0))) (by kernel_rfl) ?_
 obtain⟨hK0,hKr0⟩:=aw hK
 have hK1:=hKr0
 dsimp only[lU]at hpre
 obtain⟨g0,g1,g2,g3⟩:=hpre
 refine iI (fun hc1=> ?_) (fun hc1=> ?_)
 refine dL ?_
 refine aB (fun x1=> ?_)
 refine iI (fun hi2=> ?_) (fun _=>rfl)
 refine dL ?_
 refine aB (fun x2=> ?_)
 refine iI (fun hi3=> ?_) (fun _=>rfl)
 refine Hn (fun hc4=> ?_) (fun hc4=> ?_)
 refine aN ?_
 exact We (q:=⟨p.h1,p.l1,p.h2,p.l2,p.i+(1:Int)⟩)
 exact hK1
 exact hK0
theorem Vs:dI Tryz.prog 26 0 GO true 0 FM:=by
 exact dM (lf:=600) bv (aT zK) (by rfl) nB kK yz (fun b j x h=>by cases h) (fun S M nx K h=>by obtain⟨p,h⟩:=bL h;exact⟨p,(aa h).1,(aa h).2⟩) (fun p K h=>Ux p K (aa h).1 (aa h).2)
structure DJ where
 h1:Value
 l1:(List aW)
 h2:Value
 l2:(List aW)
structure HE where
 q:Prop
noncomputable def HJ (p:DJ):IE:=([.sy (.imm p.h1 5 aW p.l1 encP),.sy (.imm p.h2 5 aW p.l2 encP)],.leaf,0)
noncomputable def OW (p:DJ) (K:KE):Bool:=aA fun r:HE=>K (.sy (.bool r.q)) .leaf 0
def xF (p:DJ):Prop:=p.l1.length≤1000000∧p.l2.length≤1000000
theorem YR (p:DJ) (K:KE) (hpre:xF p) (hK:OW p K=true):(bZ 0 (bH CZ) GO 600 Tz (HJ p).1 (HJ p).2.1 (HJ p).2.2 K)=true:=by
 refine Eq.trans (b:=(iP (¬(p.l1.length:Int)=(p.l2.length:Int)) (K (.sy (.bool (false=true))) .leaf 0) (aI fun p1:kc=>mP (((.cons 5 (.sy (.int 0 0)) (.cons 1 (.sy (.imm p.h2 5 aW p.l2 encP)) (.cons 0 (.sy (.imm p.h1 5 aW p.l1 encP)) .nil))),.leaf,0)=nB p1) (mP (lU p1) (ac (K (.sy (.bool (true=true))) .leaf 0) (K (.sy (.bool (false=true))) .leaf 0)))))) (by kernel_rfl) ?_
 dsimp only[xF]at hpre
 obtain⟨u1,u2⟩:=hpre
 refine iI (fun hc1=> ?_) (fun hc1=> ?_)
 exact aF hK (⟨false=true⟩:HE)
 refine dG (⟨p.h1,p.l1,p.h2,p.l2,(0:Int)⟩:kc) rfl (by(try dsimp only[lU]);refine⟨by omega,by omega,by omega,by omega⟩) ?_
 refine aM ?_ ?_
 exact aF hK (⟨true=true⟩:HE)
 exact aF hK (⟨false=true⟩:HE)
noncomputable def CW:=bM CZ 0 (ce HJ (dD xF OW)) 80 [(0,23),(1,23)]
theorem zC:be Tryz.prog CW:=aY (bV (f:=80) (k:=0) (lp:=GO) (lf:=600) bv (aT zK) Tx (by rfl) (fun b j x h=>(cd Vs (fun h=>(by cases h)) h)) fun p K h=>YR p K (aa h).1 (aa h).2) zK
def Cm:XC:=(.aft (.seq (.seq (g_ 4 [p_ 0 11 (m_ 5),p_ 1 12 (m_ 0),p_ 2 13 (k_ 12),p_ 3 14 (.bin 3 0 (.t 11) (.t 13))]) (.cond (.t 14) .skip (.exit 2))) (.seq (.block 3 (.seq (h_ 9 [p_ 0 17 (m_ 0),p_ 1 18 (m_ 5),p_ 2 19 (.ixs 3 (.t 17) (.t 18)),r_ 3 20 (.ld true 3 (.t 19)),p_ 4 21 (m_ 1),p_ 5 22 (m_ 5),p_ 6 23 (.ixs 3 (.t 21) (.t 22)),r_ 7 24 (.ld true 3 (.t 23)),p_ 8 25 (.eqs true 2 (.st [(0,1,false,.str),(1,1,false,.str),(2,1,false,.bool)]) (.t 20) (.t 24))]) (.cond (.t 25) (.seq (g_ 1 [p_ 0 4 (.mv (.c (.bool false)))]) .ret) .skip))) (g_ 3 [p_ 0 15 (m_ 5),p_ 1 16 (.bin 0 0 (.t 15) (i_ 1)),p_ 2 5 (m_ 16)]))) [(0,[.can 0 [0,1,5]]),(1,[.can 0 [4]]),(2,[.can 0 []])])
def Pn:XF:=.mk 26 (.one 4) (.aft (.seq (g_ 1 [p_ 0 4 (.mv (.c (.bool false)))]) (.seq (.seq (g_ 5 [p_ 0 6 (m_ 0),p_ 1 7 (k_ 6),p_ 2 8 (m_ 1),p_ 3 9 (k_ 8),p_ 4 10 (.bin 3 5 (.t 7) (.t 9))]) (.cond (.t 10) (.seq (g_ 1 [p_ 0 4 (.mv (.c (.bool false)))]) .ret) .skip)) (.seq (.seq (g_ 1 [p_ 0 5 (.mv (i_ 0))]) (.block 2 (.pre [.can 0 [0,1,5],.up 5,.can 0 [0,1,5]] (.inv 0 Cm)))) (.seq (g_ 1 [p_ 0 4 (.mv (.c (.bool true)))]) .ret)))) [(0,[.up 4]),(1,[.up 4])])
theorem QW:bT Tryz.prog 81 Pn=true:=by kernel_rfl
structure iO where
 h1:Value
 l1:(List bg)
 h2:Value
 l2:(List bg)
 i:Int
noncomputable def kU (p:iO):IL:=((.cons 5 (.sy (.int 0 p.i)) (.cons 1 (.sy (.imm p.h2 3 bg p.l2 bb)) (.cons 0 (.sy (.imm p.h1 3 bg p.l1 bb)) .nil))),.leaf,0)
noncomputable def yX (p:iO) (K:KC):Bool:=ac (K 2 .nil .leaf 0) (K 1 (.cons 4 (.bool false) .nil) .leaf 0)
def kD (p:iO):Prop:=p.l1.length=p.l2.length∧0≤p.i∧p.i≤(p.l1.length:Int)∧p.l1.length≤1000000
noncomputable def vG (p:iO) (K:KC):Bool:=ac (au (kD p)) (yX p K)
noncomputable def Dg:ft:=fun j S M nx K=>(Bool.rec (false) (aI fun p:iO=>ac (au ((S,M,nx)=kU p)) (vG p K)) (Nat.beq j 0))
def iq (p:iO):Nat:=((p.l1.length:Int) - p.i).toNat
noncomputable def Cr (s:IL) (n:Nat) (K:KC):Bool:=aI fun q=>mP (s=kU q∧iq q<n) (vG q K)
theorem Kp {p q:iO} {K:KC} {s:IL} (hm:iq q<iq p:=by dsimp only[iq]<;>(omega)) (hp:kD q:=by dsimp only[kD]<;>(refine⟨g0,by omega,by omega,g3⟩)) (hK:yX q K=true:=by exact(by first|exact hK|exact aM hK0 hK1)) (e:s=kU q:=by rfl):Cr s (iq p) K=true:=aG q (bf ⟨e,hm⟩ (bf hp hK))
theorem Sn (p:iO) (K:KC) (hpre:kD p) (hK:yX p K=true):(cQ (bH CW) Dg 600 Cm (kU p).1 (kU p).2.1 (kU p).2.2 (fun e S M nx=>Nat.casesOn e (aI fun q:iO=>ac (au ((S,M,nx)=kU q∧iq q<iq p)) (vG q K)) (fun e2=>K (Nat.succ e2) S M nx)))=true:=by
 refine Eq.trans (b:=(let z0:Bool:=(K 1 (.cons 4 (.bool false) .nil) .leaf 0);iP (p.i<(p.l1.length:Int)) (mP (0≤p.i∧p.i<(p.l1.length:Int)) (aA fun x1:bg=>iP (p.l1[p.i.toNat]?=some x1) (mP (0≤p.i∧p.i<(p.l2.length:Int)) (aA fun x2:bg=>iP (p.l2[p.i.toNat]?=some x2) (iP (x1.key=x2.key) (iP (x1.val=x2.val) (iP (x1.has) (iP (x2.has) (mP (aL 0 (p.i+(1:Int))) (Cr ((.cons 5 (.sy (.int 0 (p.i+(1:Int)))) (.cons 1 (.sy (.imm p.h2 3 bg p.l2 bb)) (.cons 0 (.sy (.imm p.h1 3 bg p.l1 bb)) .nil))),.leaf,0) (iq p) K)) z0) (iP (x2.has) z0 (mP (aL 0 (p.i+(1:Int))) (Cr ((.cons 5 (.sy (.int 0 (p.i+(1:Int)))) (.cons 1 (.sy (.imm p.h2 3 bg p.l2 bb)) (.cons 0 (.sy (.imm p.h1 3 bg p.l1 bb)) .nil))),.leaf,0) (iq p) K)))) z0) z0) true)) true)) (K 2 .nil .leaf 0))) (by kernel_rfl) ?_
 obtain⟨hK0,hKr0⟩:=aw hK
 have hK1:=hKr0
 dsimp only[kD]at hpre
 obtain⟨g0,g1,g2,g3⟩:=hpre
 refine iI (fun hc1=> ?_) (fun hc1=> ?_)
 refine dL ?_
 refine aB (fun x1=> ?_)
 refine iI (fun hi2=> ?_) (fun _=>rfl)
 refine dL ?_
 refine aB (fun x2=> ?_)
 refine iI (fun hi3=> ?_) (fun _=>rfl)
 refine iI (fun hc4=> ?_) (fun hc4=> ?_)
 refine iI (fun hc5=> ?_) (fun hc5=> ?_)
 refine iI (fun hc6=> ?_) (fun hc6=> ?_)
 refine iI (fun hc7=> ?_) (fun hc7=> ?_)
 refine aN ?_
 exact Kp (q:=⟨p.h1,p.l1,p.h2,p.l2,p.i+(1:Int)⟩)
 exact hK1
 refine iI (fun hc8=> ?_) (fun hc8=> ?_)
 exact hK1
 refine aN ?_
 exact Kp (q:=⟨p.h1,p.l1,p.h2,p.l2,p.i+(1:Int)⟩)
 exact hK1
 exact hK1
 exact hK0
theorem Tc:dI Tryz.prog 26 0 Dg true 0 Cm:=by
 exact dM (lf:=600) bv (aT zC) (by rfl) kU iq vG (fun b j x h=>by cases h) (fun S M nx K h=>by obtain⟨p,h⟩:=bL h;exact⟨p,(aa h).1,(aa h).2⟩) (fun p K h=>Sn p K (aa h).1 (aa h).2)
structure yt where
 h1:Value
 l1:(List bg)
 h2:Value
 l2:(List bg)
structure Cx where
 q:Prop
noncomputable def CH (p:yt):IE:=([.sy (.imm p.h1 3 bg p.l1 bb),.sy (.imm p.h2 3 bg p.l2 bb)],.leaf,0)
noncomputable def Ly (p:yt) (K:KE):Bool:=aA fun r:Cx=>K (.sy (.bool r.q)) .leaf 0
def ud (p:yt):Prop:=p.l1.length≤1000000∧p.l2.length≤1000000
theorem Xe (p:yt) (K:KE) (hpre:ud p) (hK:Ly p K=true):(bZ 0 (bH CW) Dg 600 Pn (CH p).1 (CH p).2.1 (CH p).2.2 K)=true:=by
 refine Eq.trans (b:=(iP (¬(p.l1.length:Int)=(p.l2.length:Int)) (K (.sy (.bool (false=true))) .leaf 0) (aI fun p1:iO=>mP (((.cons 5 (.sy (.int 0 0)) (.cons 1 (.sy (.imm p.h2 3 bg p.l2 bb)) (.cons 0 (.sy (.imm p.h1 3 bg p.l1 bb)) .nil))),.leaf,0)=kU p1) (mP (kD p1) (ac (K (.sy (.bool (true=true))) .leaf 0) (K (.sy (.bool (false=true))) .leaf 0)))))) (by kernel_rfl) ?_
 dsimp only[ud]at hpre
 obtain⟨u1,u2⟩:=hpre
 refine iI (fun hc1=> ?_) (fun hc1=> ?_)
 exact aF hK (⟨false=true⟩:Cx)
 refine dG (⟨p.h1,p.l1,p.h2,p.l2,(0:Int)⟩:iO) rfl (by(try dsimp only[kD]);refine⟨by omega,by omega,by omega,by omega⟩) ?_
 refine aM ?_ ?_
 exact aF hK (⟨true=true⟩:Cx)
 exact aF hK (⟨false=true⟩:Cx)
noncomputable def Fo:=bM CW 0 (ce CH (dD ud Ly)) 81 [(0,23),(1,23)]
theorem Ea:be Tryz.prog Fo:=aY (bV (f:=81) (k:=0) (lp:=Dg) (lf:=600) bv (aT zC) QW (by rfl) (fun b j x h=>(cd Tc (fun h=>(by cases h)) h)) fun p K h=>Xe p K (aa h).1 (aa h).2) zC
def Pk:XF:=.mk 52 (.one 4) (.aft (.seq (g_ 3 [e_ 0 2 (.box 108 (.t 0)),e_ 1 3 (.box 108 (.t 1)),p_ 2 4 (.mv (.c (.bool false)))]) (.seq (g_ 48 [p_ 0 5 (f_ 0 2),r_ 1 6 (l_ 5),p_ 2 7 (f_ 0 3),r_ 3 8 (l_ 7),p_ 4 9 (.bin 3 4 (.t 6) (.t 8)),p_ 5 10 (m_ 9),aK 6 11 10 true (f_ 1 2),bU 7 12 10 true (.ld true 10 (.t 11)),aK 8 13 10 true (f_ 1 3),bU 9 14 10 true (.ld true 10 (.t 13)),aK 10 15 10 true (.eqs false 4 (.st [(0,2,true,.st [(0,1,false,.int),(1,1,false,.int)]),(2,1,false,.int),(3,1,false,.int),(4,6,true,.ar [0,2,4] 2 true (.st [(0,1,false,.int),(1,1,false,.int)]))]) (.t 12) (.t 14)),p_ 11 16 (.pick (.t 10) (.t 15) (.c (.bool false))),p_ 12 17 (m_ 16),aK 13 18 17 true (f_ 11 2),bU 14 19 17 true (l_ 18),aK 15 20 17 true (f_ 11 3),bU 16 21 17 true (l_ 20),aK 17 22 17 true (.bin 3 4 (.t 19) (.t 21)),p_ 18 23 (.pick (.t 17) (.t 22) (.c (.bool false))),p_ 19 24 (m_ 23),aK 20 25 24 true (f_ 12 2),bU 21 26 24 true (l_ 25),aK 22 27 24 true (f_ 12 3),bU 23 28 24 true (l_ 27),qf 24 29 24 true 76 [.t 26,.t 28],p_ 25 30 (.pick (.t 24) (.t 29) (.c (.bool false))),p_ 26 31 (m_ 30),aK 27 32 31 true (f_ 13 2),bU 28 33 31 true (.ld true 2 (.t 32)),aK 29 34 31 true (f_ 13 3),bU 30 35 31 true (.ld true 2 (.t 34)),aK 31 36 31 true (.eqs false 2 (.st [(0,1,false,.int),(1,1,false,.str)]) (.t 33) (.t 35)),p_ 32 37 (.pick (.t 31) (.t 36) (.c (.bool false))),p_ 33 38 (m_ 37),aK 34 39 38 true (f_ 15 2),bU 35 40 38 true (l_ 39),aK 36 41 38 true (f_ 15 3),bU 37 42 38 true (l_ 41),qf 38 43 38 true 77 [.t 40,.t 42],p_ 39 44 (.pick (.t 38) (.t 43) (.c (.bool false))),p_ 40 45 (m_ 44),aK 41 46 45 true (f_ 16 2),bU 42 47 45 true (.ld true 2 (.t 46)),aK 43 48 45 true (f_ 16 3),bU 44 49 45 true (.ld true 2 (.t 48)),aK 45 50 45 true (.eqs false 2 (.st [(0,1,false,.int),(1,1,false,.int)]) (.t 47) (.t 49)),p_ 46 51 (.pick (.t 45) (.t 50) (.c (.bool false))),p_ 47 4 (m_ 51)]) .ret)) [(0,[.up 4]),(1,[.up 4])])
theorem QU:bT Tryz.prog 53 Pk=true:=by kernel_rfl
structure lq where
 x:ai
 y:ai
structure jt where
 q:Prop
noncomputable def sI (p:lq):IE:=([.agg (br p.x),.agg (br p.y)],.leaf,0)
noncomputable def Lx (p:lq) (K:KE):Bool:=aA fun r:jt=>K (.sy (.bool r.q)) .leaf 0
def iy (p:lq):Prop:=dU p.x∧dU p.y
theorem Xc (p:lq) (K:KE) (hpre:iy p) (hK:Lx p K=true):(bZ 0 (bH Fo) dT 600 Pk (sI p).1 (sI p).2.1 (sI p).2.2 K)=true:=by
 refine Eq.trans (b:=(let z0:Bool:=(K (.sy (.bool (false=true))) .leaf 0);iP (p.x.kind=p.y.kind) (sH p.x.id p.y.id (iP (p.x.floor=p.y.floor) (aI fun p1:DL=>mP (([.sy (.imm p.x.hp 5 aW p.x.ps encP),.sy (.imm p.y.hp 5 aW p.y.ps encP)],.leaf,0)=HM p1) (mP (xH p1) (aA fun r1:HH=>iP (r1.q) (iP (p.x.rc=p.y.rc) (iP (p.x.rv=p.y.rv) (aI fun p2:DK=>mP (([.sy (.imm p.x.hw 3 bg p.x.ws bb),.sy (.imm p.y.hw 3 bg p.y.ws bb)],.leaf,0)=HL p2) (mP (xG p2) (aA fun r2:HG=>iP (r2.q) (qZ p.x.vic p.y.vic (K (.sy (.bool (true=true))) .leaf 0) z0) z0))) z0) z0) z0))) z0) z0) z0)) (by kernel_rfl) ?_
 dsimp only[iy]at hpre
 obtain⟨⟨⟨u1,_⟩,u2⟩,⟨u3,_⟩,u4⟩:=hpre
 refine iI (fun hc1=> ?_) (fun hc1=> ?_)
 refine pm (fun hc2=> ?_) (fun hc2=> ?_)
 refine iI (fun hc3=> ?_) (fun hc3=> ?_)
 refine dG (⟨p.x.hp,p.x.ps,p.y.hp,p.y.ps⟩:DL) rfl (by(try dsimp only[xH]);omega) ?_
 refine aB (fun r1=> ?_)
 refine iI (fun hc4=> ?_) (fun hc4=> ?_)
 refine iI (fun hc5=> ?_) (fun hc5=> ?_)
 refine iI (fun hc6=> ?_) (fun hc6=> ?_)
 refine dG (⟨p.x.hw,p.x.ws,p.y.hw,p.y.ws⟩:DK) rfl (by(try dsimp only[xG]);omega) ?_
 refine aB (fun r2=> ?_)
 refine iI (fun hc7=> ?_) (fun hc7=> ?_)
 refine rN (fun hc8=> ?_) (fun hc8=> ?_)
 exact aF hK (⟨true=true⟩:jt)
 exact aF hK (⟨false=true⟩:jt)
 exact aF hK (⟨false=true⟩:jt)
 exact aF hK (⟨false=true⟩:jt)
 exact aF hK (⟨false=true⟩:jt)
 exact aF hK (⟨false=true⟩:jt)
 exact aF hK (⟨false=true⟩:jt)
 exact aF hK (⟨false=true⟩:jt)
 exact aF hK (⟨false=true⟩:jt)
noncomputable def Fl:=bM Fo 0 (ce sI (dD iy Lx)) 53 [(0,15),(1,15)]
theorem DY:be Tryz.prog Fl:=aY (cX (f:=53) (k:=0) (aT Ea) QU (by rfl) (by rfl) Xc) Ea
def Me:XF:=.mk 52 (.one 4) (.aft (.seq (g_ 3 [e_ 0 2 (.box 62 (.t 0)),e_ 1 3 (.box 62 (.t 1)),p_ 2 4 (.mv (.c (.bool false)))]) (.seq (g_ 48 [p_ 0 5 (f_ 0 2),r_ 1 6 (l_ 5),p_ 2 7 (f_ 0 3),r_ 3 8 (l_ 7),p_ 4 9 (.bin 3 4 (.t 6) (.t 8)),p_ 5 10 (m_ 9),aK 6 11 10 true (f_ 1 2),bU 7 12 10 true (.ld true 10 (.t 11)),aK 8 13 10 true (f_ 1 3),bU 9 14 10 true (.ld true 10 (.t 13)),aK 10 15 10 true (.eqs false 4 (.st [(0,2,true,.st [(0,1,false,.int),(1,1,false,.int)]),(2,1,false,.int),(3,1,false,.int),(4,6,true,.ar [0,2,4] 2 true (.st [(0,1,false,.int),(1,1,false,.int)]))]) (.t 12) (.t 14)),p_ 11 16 (.pick (.t 10) (.t 15) (.c (.bool false))),p_ 12 17 (m_ 16),aK 13 18 17 true (f_ 11 2),bU 14 19 17 true (l_ 18),aK 15 20 17 true (f_ 11 3),bU 16 21 17 true (l_ 20),aK 17 22 17 true (.bin 3 4 (.t 19) (.t 21)),p_ 18 23 (.pick (.t 17) (.t 22) (.c (.bool false))),p_ 19 24 (m_ 23),aK 20 25 24 true (f_ 12 2),bU 21 26 24 true (l_ 25),aK 22 27 24 true (f_ 12 3),bU 23 28 24 true (l_ 27),qf 24 29 24 true 80 [.t 26,.t 28],p_ 25 30 (.pick (.t 24) (.t 29) (.c (.bool false))),p_ 26 31 (m_ 30),aK 27 32 31 true (f_ 13 2),bU 28 33 31 true (.ld true 2 (.t 32)),aK 29 34 31 true (f_ 13 3),bU 30 35 31 true (.ld true 2 (.t 34)),aK 31 36 31 true (.eqs false 2 (.st [(0,1,false,.int),(1,1,false,.str)]) (.t 33) (.t 35)),p_ 32 37 (.pick (.t 31) (.t 36) (.c (.bool false))),p_ 33 38 (m_ 37),aK 34 39 38 true (f_ 15 2),bU 35 40 38 true (l_ 39),aK 36 41 38 true (f_ 15 3),bU 37 42 38 true (l_ 41),qf 38 43 38 true 81 [.t 40,.t 42],p_ 39 44 (.pick (.t 38) (.t 43) (.c (.bool false))),p_ 40 45 (m_ 44),aK 41 46 45 true (f_ 16 2),bU 42 47 45 true (.ld true 2 (.t 46)),aK 43 48 45 true (f_ 16 3),bU 44 49 45 true (.ld true 2 (.t 48)),aK 45 50 45 true (.eqs false 2 (.st [(0,1,false,.int),(1,1,false,.int)]) (.t 47) (.t 49)),p_ 46 51 (.pick (.t 45) (.t 50) (.c (.bool false))),p_ 47 4 (m_ 51)]) .ret)) [(0,[.up 4]),(1,[.up 4])])
theorem On:bT Tryz.prog 62 Me=true:=by kernel_rfl
structure iZ where
 x:ai
 y:ai
structure gP where
 q:Prop
noncomputable def pr (p:iZ):IE:=([.agg (br p.x),.agg (br p.y)],.leaf,0)
noncomputable def Ju (p:iZ) (K:KE):Bool:=aA fun r:gP=>K (.sy (.bool r.q)) .leaf 0
def gy (p:iZ):Prop:=dU p.x∧dU p.y
theorem Ul (p:iZ) (K:KE) (hpre:gy p) (hK:Ju p K=true):(bZ 0 (bH Fl) dT 600 Me (pr p).1 (pr p).2.1 (pr p).2.2 K)=true:=by
 refine Eq.trans (b:=(let z0:Bool:=(K (.sy (.bool (false=true))) .leaf 0);iP (p.x.kind=p.y.kind) (sH p.x.id p.y.id (iP (p.x.floor=p.y.floor) (aI fun p1:DJ=>mP (([.sy (.imm p.x.hp 5 aW p.x.ps encP),.sy (.imm p.y.hp 5 aW p.y.ps encP)],.leaf,0)=HJ p1) (mP (xF p1) (aA fun r1:HE=>iP (r1.q) (iP (p.x.rc=p.y.rc) (iP (p.x.rv=p.y.rv) (aI fun p2:yt=>mP (([.sy (.imm p.x.hw 3 bg p.x.ws bb),.sy (.imm p.y.hw 3 bg p.y.ws bb)],.leaf,0)=CH p2) (mP (ud p2) (aA fun r2:Cx=>iP (r2.q) (qZ p.x.vic p.y.vic (K (.sy (.bool (true=true))) .leaf 0) z0) z0))) z0) z0) z0))) z0) z0) z0)) (by kernel_rfl) ?_
 dsimp only[gy]at hpre
 obtain⟨⟨⟨u1,_⟩,u2⟩,⟨u3,_⟩,u4⟩:=hpre
 refine iI (fun hc1=> ?_) (fun hc1=> ?_)
 refine pm (fun hc2=> ?_) (fun hc2=> ?_)
 refine iI (fun hc3=> ?_) (fun hc3=> ?_)
 refine dG (⟨p.x.hp,p.x.ps,p.y.hp,p.y.ps⟩:DJ) rfl (by(try dsimp only[xF]);omega) ?_
 refine aB (fun r1=> ?_)
 refine iI (fun hc4=> ?_) (fun hc4=> ?_)
 refine iI (fun hc5=> ?_) (fun hc5=> ?_)
 refine iI (fun hc6=> ?_) (fun hc6=> ?_)
 refine dG (⟨p.x.hw,p.x.ws,p.y.hw,p.y.ws⟩:yt) rfl (by(try dsimp only[ud]);omega) ?_
 refine aB (fun r2=> ?_)
 refine iI (fun hc7=> ?_) (fun hc7=> ?_)
 refine rN (fun hc8=> ?_) (fun hc8=> ?_)
 exact aF hK (⟨true=true⟩:gP)
 exact aF hK (⟨false=true⟩:gP)
 exact aF hK (⟨false=true⟩:gP)
 exact aF hK (⟨false=true⟩:gP)
 exact aF hK (⟨false=true⟩:gP)
 exact aF hK (⟨false=true⟩:gP)
 exact aF hK (⟨false=true⟩:gP)
 exact aF hK (⟨false=true⟩:gP)
 exact aF hK (⟨false=true⟩:gP)
noncomputable def BB:=bM Fl 0 (ce pr (dD gy Ju)) 62 [(0,15),(1,15)]
theorem BA:be Tryz.prog BB:=aY (cX (f:=62) (k:=0) (aT DY) On (by rfl) (by rfl) Ul) DY
noncomputable def An (f:bE) (k0:Nat) (k1:Nat) (k2:Nat) (k3:Nat) (k4:Nat) (k5:Nat) (k6:Nat) (k7:Nat):T:=(.node (.node (.node (.node .leaf (some (.kmap false true false eI f.ms ed cP)) .leaf) (some (.kmap false true false ID f.me bG bw)) (.node .leaf (some (.prow 108 18 ai f.o2 am)) .leaf)) (some (.kmap false true false ID f.mb bG bw)) (.node (.node .leaf (some (.prow 108 18 ai f.o0 am)) .leaf) (some (.kmap false true false eD f.mt dZ cO)) .leaf)) (some (.blk false 97 14 [[.sy (.kmp 1),.sy (.prow 2 k0),.sy (.kmp 3),.sy (.prow 4 k1),.sy (.kmp 5),.sy (.prow 6 k2),.sy (.kmp 7),.sy (.prow 8 k3),.sy (.prow 9 k4),.sy (.prow 10 k5),.sy (.prow 11 k6),.sy (.prow 12 k7),.sy (.int 0 f.sp),.bool true]])) (.node (.node (.node .leaf (some (.prow 119 5 cM f.s cp)) .leaf) (some (.prow 103 17 EdR f.e bA)) (.node .leaf (some (.prow 108 18 ai f.o3 am)) .leaf)) (some (.prow 78 14 BgR f.b bo)) (.node (.node .leaf (some (.prow 108 18 ai f.o1 am)) .leaf) (some (.prow 115 17 cL f.t co)) .leaf)))
noncomputable def bj (f:bE):T:=An f f.b.length f.e.length f.t.length f.s.length f.o0.length f.o1.length f.o2.length f.o3.length
def Mz:XF:=.mk 21 (.one 4) (.aft (.pre [.kfork 0 0 0] (.seq (g_ 2 [e_ 0 3 (.box 78 (.t 1)),p_ 1 4 (.mv (.c (.bool false)))]) (.seq (g_ 5 [p_ 0 5 (f_ 13 3),r_ 1 6 (l_ 5),c_ 2 7 45 [.t 6],p_ 3 8 (f_ 13 3),cA 4 (.st 1 (.t 8) (.t 7))]) (.seq (h_ 13 [p_ 0 9 (m_ 0),c_ 1 10 46 [.t 9],p_ 2 11 (.un 0 (.t 10)),p_ 3 12 (m_ 11),aK 4 13 12 true (m_ 0),aK 5 14 12 true (n_ 13),aK 6 15 12 true (f_ 0 14),aK 7 16 12 true (f_ 0 3),bU 8 17 12 true (.ld true 10 (.t 16)),bU 9 18 12 true (.ld true 14 (.t 3)),qf 10 19 12 true 47 [.t 15,.t 17,.t 18],p_ 11 20 (.pick (.t 12) (.t 19) (.c (.bool false))),p_ 12 4 (m_ 20)]) .ret)))) [(0,[.up 4,.kjoin 0 0 0 true false ID bG bw]),(1,[.up 4,.kjoin 0 0 0 true false ID bG bw])])
theorem Oy:bT Tryz.prog 15 Mz=true:=by kernel_rfl
structure rp where
 f:bE
 v:BgR
structure Jh where
 mb:List ID
 b:List BgR
 q:Prop
def oD (p:rp) (r:Jh):Prop:=r.b.map bN=td (p.f.b.map bN) (bN p.v)∧fh r.mb r.b∧r.b.length≤p.f.b.length+1
noncomputable def yq (p:rp):IE:=([.ptr 0 0,.agg (KU p.v)],(bj p.f),13)
noncomputable def Bv (p:rp) (K:KE):Bool:=aA fun r:Jh=>iP (oD p r) (K (.sy (.bool r.q)) (bj ({p.f with mb:=r.mb,b:=r.b}:bE)) 13) true
def rY (p:rp):Prop:=fh p.f.mb p.f.b∧jS p.v∧p.f.b.length≤80
theorem BX {p:rp} {K:KE} (hK:Bv p K=true) (r:Jh) (h:oD p r):K (.sy (.bool r.q)) (bj ({p.f with mb:=r.mb,b:=r.b}:bE)) 13=true:=aP h (aF hK r)
theorem Ut (p:rp) (K:KE) (hpre:rY p) (hK:Bv p K=true):(bZ 1 (bH BB) dT 600 Mz (yq p).1 (yq p).2.1 (yq p).2.2 K)=true:=by
 refine Eq.trans (b:=(ac (iP (p.f.mb=[]) (aX (([.sy (.imm p.v.hp 5 aW p.v.ps encP)],.leaf,0)) eT bX bY fun p1 r1=>mP (((.prow 2 p.f.b.length):SY)=(.prow 2 p.f.b.length)) (mP (p.f.b.length=p.f.b.length) (aI fun m1:List BgR=>mP (dx (m1.map bo) [[.sint 1 p.v.id.client.node,.sint 2 p.v.id.client.life,.sint 3 p.v.id.seq,.sint 1 p.v.id.depth,.sint 1 p.v.id.p0.group,.sint 1 p.v.id.p0.index,.sint 1 p.v.id.p1.group,.sint 1 p.v.id.p1.index,.sint 1 p.v.id.p2.group,.sint 1 p.v.id.p2.index,.sint 1 p.v.g,.sint 0 p.v.mode,.sint 0 p.v.at_,.imm r1.h 5 aW r1.o encP]]) (mP (dh 64 (p.f.b.length+m1.length)) (aI fun l1:List ID=>mP (([(.agg (ee p.v.id),.bool true,0)]:List (AV×AV×Nat)).map (fun e=>(e.1,e.2.1))=l1.map (fun x=>(ch true (bG x),ch false (bw x)))) (mP ((.map 16:AV)=(.map 16:AV)) (K (.sy (.bool (true=true))) (bj ({p.f with mb:=l1,b:=p.f.b++m1}:bE)) 13))))))) true) (mP ((.sy (.kmp 1):AV)=(.sy (.kmp 1):AV)) (aX (([.sy (.imm p.v.hp 5 aW p.v.ps encP)],.leaf,0)) eT bX bY fun p2 r2=>aI fun Q1:ID→Prop=>ac (aA fun x2:ID=>iP (x2∈p.f.mb) (jV p.v.id x2 (Q1 x2)) true) (ac (iP (∀y∈p.f.mb,¬Q1 y) (aI fun Q2:ID→Prop=>ac (aA fun x4:ID=>iP (x4∈p.f.mb) (jV p.v.id x4 (Q2 x4)) true) (mP (∀y∈p.f.mb,¬Q2 y) (aI fun x3:ID=>mP (ch true (bG x3)=(.agg (ee p.v.id))) (mP (ch false (bw x3)=(.bool true)) (mP (((.prow 2 p.f.b.length):SY)=(.prow 2 p.f.b.length)) (mP (p.f.b.length=p.f.b.length) (aI fun m2:List BgR=>mP (dx (m2.map bo) [[.sint 1 p.v.id.client.node,.sint 2 p.v.id.client.life,.sint 3 p.v.id.seq,.sint 1 p.v.id.depth,.sint 1 p.v.id.p0.group,.sint 1 p.v.id.p0.index,.sint 1 p.v.id.p1.group,.sint 1 p.v.id.p1.index,.sint 1 p.v.id.p2.group,.sint 1 p.v.id.p2.index,.sint 1 p.v.g,.sint 0 p.v.mode,.sint 0 p.v.at_,.imm r2.h 5 aW r2.o encP]]) (mP (dh 64 (p.f.b.length+m2.length)) (mP ((.map 1:AV)=(.map 1:AV)) (K (.sy (.bool (true=true))) (bj ({p.f with mb:=p.f.mb++[x3],b:=p.f.b++m2}:bE)) 13)))))))))) true) (aA fun x1:ID=>iP (x1∈p.f.mb∧Q1 x1) (mP ((.map 1:AV)=(.map 1:AV)) (K (.sy (.bool (false=true))) (bj p.f) 13)) true)))))) (by kernel_rfl) ?_
 dsimp only[rY]at hpre
 obtain⟨g0,g1,g2⟩:=hpre
 refine aM ?_ ?_
 refine iI (fun hi1=> ?_) (fun _=>rfl)
 refine aJ (⟨p.v.hp,p.v.ps⟩:ek) rfl (by(try dsimp only[bX]);first|exact g1.2|omega) fun r1 hi2=> ?_
 dsimp only[bY]at hi2
 refine az (az ?_)
 refine aG [({p.v with hp:=r1.h,ps:=r1.o}:BgR)] ?_
 refine jN ?_
 refine li ?_
 refine aG [p.v.id] ?_
 refine az (az ?_)
 exact BX hK ⟨[p.v.id],p.f.b++[({p.v with hp:=r1.h,ps:=r1.o}:BgR)],true=true⟩ (by dsimp only[oD]<;>(have ec:=(by assumption:_=p.v.ps);first|exact RH g0 (by assumption)|exact DB g0 (by assumption) ⟨g1.1,by rw[ec];exact g1.2⟩ rfl rfl|exact DB g0 (su (by assumption)) ⟨g1.1,by rw[ec];exact g1.2⟩ rfl (by simp_all)))
 refine az ?_
 refine aJ (⟨p.v.hp,p.v.ps⟩:ek) rfl (by(try dsimp only[bX]);first|exact g1.2|omega) fun r2 hi3=> ?_
 dsimp only[bY]at hi3
 refine aG (dj p.v.id) ?_
 refine aM ?_ ?_
 refine aB (fun x2=> ?_)
 refine iI (fun hi4=> ?_) (fun _=>rfl)
 exact gE
 refine aM ?_ ?_
 refine iI (p:=∀y∈p.f.mb,¬(dj p.v.id) y) (fun hi5=> ?_) (fun _=>rfl)
 refine aG (dj p.v.id) ?_
 refine aM ?_ ?_
 refine aB (fun x4=> ?_)
 refine iI (fun hi6=> ?_) (fun _=>rfl)
 exact gE
 refine mI (by(try dsimp only);assumption) ?_
 refine aG p.v.id ?_
 refine az (az (az (az ?_)))
 refine aG [({p.v with hp:=r2.h,ps:=r2.o}:BgR)] ?_
 refine jN ?_
 refine li (az ?_)
 exact BX hK ⟨p.f.mb++[p.v.id],p.f.b++[({p.v with hp:=r2.h,ps:=r2.o}:BgR)],true=true⟩ (by dsimp only[oD]<;>(have ec:=(by assumption:_=p.v.ps);first|exact RH g0 (by assumption)|exact DB g0 (by assumption) ⟨g1.1,by rw[ec];exact g1.2⟩ rfl rfl|exact DB g0 (su (by assumption)) ⟨g1.1,by rw[ec];exact g1.2⟩ rfl (by simp_all)))
 refine aB (fun x1=> ?_)
 refine iI (p:=x1∈p.f.mb∧(dj p.v.id) x1) (fun hi7=> ?_) (fun _=>rfl)
 refine az ?_
 exact BX hK ⟨p.f.mb,p.f.b,false=true⟩ (by dsimp only[oD]<;>(have ec:=(by assumption:_=p.v.ps);first|exact RH g0 (by assumption)|exact DB g0 (by assumption) ⟨g1.1,by rw[ec];exact g1.2⟩ rfl rfl|exact DB g0 (su (by assumption)) ⟨g1.1,by rw[ec];exact g1.2⟩ rfl (by simp_all)))
noncomputable def BJ:=bM BB 1 (ce yq (dD rY Bv)) 15 [(1,15)]
theorem BI:be Tryz.prog BJ:=aY (cX (f:=15) (k:=1) (aT BA) Oy (by rfl) (by rfl) Ut) BA
def Pu:XF:=.mk 27 (.one 4) (.aft (.pre [.kfork 0 0 2] (.seq (g_ 2 [e_ 0 3 (.box 103 (.t 1)),p_ 1 4 (.mv (.c (.bool false)))]) (.seq (h_ 23 [p_ 0 5 (m_ 0),c_ 1 6 46 [.t 5],p_ 2 7 (.un 0 (.t 6)),p_ 3 8 (m_ 7),aK 4 9 8 true (m_ 0),aK 5 10 8 true (n_ 9),aK 6 11 8 true (f_ 0 10),aK 7 12 8 true (f_ 0 11),bU 8 13 8 true (l_ 12),aK 9 14 8 true (f_ 0 3),bU 10 15 8 true (.ld true 10 (.t 14)),bU 11 16 8 true (.lk 4 (.st [(0,2,true,.st [(0,1,false,.int),(1,1,false,.int)]),(2,1,false,.int),(3,1,false,.int),(4,6,true,.ar [0,2,4] 2 true (.st [(0,1,false,.int),(1,1,false,.int)]))]) (.bool false) false (.t 13) (.t 15)),p_ 12 17 (.pick (.t 8) (.t 16) (.c (.bool false))),p_ 13 18 (m_ 17),aK 14 19 18 true (m_ 0),aK 15 20 18 true (n_ 19),aK 16 21 18 true (f_ 2 20),aK 17 22 18 true (f_ 0 3),bU 18 23 18 true (.ld true 10 (.t 22)),bU 19 24 18 true (.ld true 17 (.t 3)),qf 20 25 18 true 50 [.t 21,.t 23,.t 24],p_ 21 26 (.pick (.t 18) (.t 25) (.c (.bool false))),p_ 22 4 (m_ 26)]) .ret))) [(0,[.up 4,.kjoin 0 0 2 true false ID bG bw]),(1,[.up 4,.kjoin 0 0 2 true false ID bG bw])])
theorem Rg:bT Tryz.prog 17 Pu=true:=by kernel_rfl
structure vx where
 f:bE
 v:EdR
structure NE where
 me:List ID
 e:List EdR
 q:Prop
def ng (p:vx) (r:NE):Prop:=r.e=qp (p.f.b.map bN) p.f.e p.v∧eS r.me r.e∧r.e.length≤p.f.e.length+1
noncomputable def CM (p:vx):IE:=([.ptr 0 0,.agg (tG p.v)],(bj p.f),13)
noncomputable def Fd (p:vx) (K:KE):Bool:=aA fun r:NE=>iP (ng p r) (K (.sy (.bool r.q)) (bj ({p.f with me:=r.me,e:=r.e}:bE)) 13) true
def ui (p:vx):Prop:=fh p.f.mb p.f.b∧eS p.f.me p.f.e∧lE p.v∧p.f.e.length≤80
theorem uT {p:vx} {K:KE} (hK:Fd p K=true) (r:NE) (h:ng p r):K (.sy (.bool r.q)) (bj ({p.f with me:=r.me,e:=r.e}:bE)) 13=true:=aP h (aF hK r)
theorem Xl (p:vx) (K:KE) (hpre:ui p) (hK:Fd p K=true):(bZ 1 (bH BJ) dT 600 Pu (CM p).1 (CM p).2.1 (CM p).2.2 K)=true:=by
 refine Eq.trans (b:=(ac (iP (p.f.me=[]) (aI fun Q1:ID→Prop=>ac (aA fun x2:ID=>iP (x2∈p.f.mb) (jV p.v.id x2 (Q1 x2)) true) (ac (iP (∀y∈p.f.mb,¬Q1 y) (mP ((.nilM:AV)=(.nilM:AV)) (K (.sy (.bool (false=true))) (bj ({p.f with me:=([]:List ID)}:bE)) 13)) true) (aA fun x1:ID=>iP (x1∈p.f.mb∧Q1 x1) (mP (((.prow 4 p.f.e.length):SY)=(.prow 4 p.f.e.length)) (mP (p.f.e.length=p.f.e.length) (aI fun m1:List EdR=>mP (dx (m1.map bA) [[.sint 1 p.v.id.client.node,.sint 2 p.v.id.client.life,.sint 3 p.v.id.seq,.sint 1 p.v.id.depth,.sint 1 p.v.id.p0.group,.sint 1 p.v.id.p0.index,.sint 1 p.v.id.p1.group,.sint 1 p.v.id.p1.index,.sint 1 p.v.id.p2.group,.sint 1 p.v.id.p2.index,.sint 1 p.v.g,.sint 0 p.v.mode,.sint 0 p.v.begun,.sint 0 p.v.at_,.sint 0 p.v.code,.sint 1 p.v.rc,.sstr p.v.rv]]) (mP (dh 80 (p.f.e.length+m1.length)) (aI fun l1:List ID=>mP (([(.agg (ee p.v.id),.bool true,0)]:List (AV×AV×Nat)).map (fun e=>(e.1,e.2.1))=l1.map (fun x=>(ch true (bG x),ch false (bw x)))) (mP ((.map 16:AV)=(.map 16:AV)) (K (.sy (.bool (true=true))) (bj ({p.f with me:=l1,e:=p.f.e++m1}:bE)) 13))))))) true))) true) (mP ((.sy (.kmp 3):AV)=(.sy (.kmp 3):AV)) (aI fun Q2:ID→Prop=>ac (aA fun x4:ID=>iP (x4∈p.f.mb) (jV p.v.id x4 (Q2 x4)) true) (ac (iP (∀y∈p.f.mb,¬Q2 y) (mP ((.map 3:AV)=(.map 3:AV)) (K (.sy (.bool (false=true))) (bj p.f) 13)) true) (aA fun x3:ID=>iP (x3∈p.f.mb∧Q2 x3) (aI fun Q3:ID→Prop=>ac (aA fun x6:ID=>iP (x6∈p.f.me) (jV p.v.id x6 (Q3 x6)) true) (ac (iP (∀y∈p.f.me,¬Q3 y) (aI fun Q4:ID→Prop=>ac (aA fun x8:ID=>iP (x8∈p.f.me) (jV p.v.id x8 (Q4 x8)) true) (mP (∀y∈p.f.me,¬Q4 y) (aI fun x7:ID=>mP (ch true (bG x7)=(.agg (ee p.v.id))) (mP (ch false (bw x7)=(.bool true)) (mP (((.prow 4 p.f.e.length):SY)=(.prow 4 p.f.e.length)) (mP (p.f.e.length=p.f.e.length) (aI fun m2:List EdR=>mP (dx (m2.map bA) [[.sint 1 p.v.id.client.node,.sint 2 p.v.id.client.life,.sint 3 p.v.id.seq,.sint 1 p.v.id.depth,.sint 1 p.v.id.p0.group,.sint 1 p.v.id.p0.index,.sint 1 p.v.id.p1.group,.sint 1 p.v.id.p1.index,.sint 1 p.v.id.p2.group,.sint 1 p.v.id.p2.index,.sint 1 p.v.g,.sint 0 p.v.mode,.sint 0 p.v.begun,.sint 0 p.v.at_,.sint 0 p.v.code,.sint 1 p.v.rc,.sstr p.v.rv]]) (mP (dh 80 (p.f.e.length+m2.length)) (mP ((.map 3:AV)=(.map 3:AV)) (K (.sy (.bool (true=true))) (bj ({p.f with me:=p.f.me++[x7],e:=p.f.e++m2}:bE)) 13)))))))))) true) (aA fun x5:ID=>iP (x5∈p.f.me∧Q3 x5) (mP ((.map 3:AV)=(.map 3:AV)) (K (.sy (.bool (false=true))) (bj p.f) 13)) true))) true)))))) (by kernel_rfl) ?_
 dsimp only[ui]at hpre
 obtain⟨g0,g1,g2,g3⟩:=hpre
 refine aM ?_ ?_
 refine iI (fun hi1=> ?_) (fun _=>rfl)
 refine aG (dj p.v.id) ?_
 refine aM ?_ ?_
 refine aB (fun x2=> ?_)
 refine iI (fun hi2=> ?_) (fun _=>rfl)
 exact gE
 refine aM ?_ ?_
 refine iI (p:=∀y∈p.f.mb,¬(dj p.v.id) y) (fun hi3=> ?_) (fun _=>rfl)
 refine az ?_
 exact uT hK ⟨([]:List ID),p.f.e,false=true⟩ (by dsimp only[ng]<;>(first|exact xi g1 (fun q=>iJ g0 (by assumption) (ex_bgk.1 q))|(have e0:=(by assumption:p.f.me=[]);rw[e0]at g1;exact xi g1 (fun q=>iJ g0 (by assumption) (ex_bgk.1 q)))|exact Hk g1 (by assumption)|exact rM g1 (ex_bgk.2 (gD g0 (by assumption))) (by assumption) g2 rfl|(have e0:=(by assumption:p.f.me=[]);have e1:=gD g0 (by assumption);exact rM g1 (ex_bgk.2 e1) (su e0) g2 (by rw[e0];rfl))))
 refine aB (fun x1=> ?_)
 refine iI (p:=x1∈p.f.mb∧(dj p.v.id) x1) (fun hi4=> ?_) (fun _=>rfl)
 refine az (az ?_)
 refine aG [p.v] ?_
 refine jN ?_
 refine li ?_
 refine aG [p.v.id] ?_
 refine az (az ?_)
 exact uT hK ⟨[p.v.id],p.f.e++[p.v],true=true⟩ (by dsimp only[ng]<;>(first|exact xi g1 (fun q=>iJ g0 (by assumption) (ex_bgk.1 q))|(have e0:=(by assumption:p.f.me=[]);rw[e0]at g1;exact xi g1 (fun q=>iJ g0 (by assumption) (ex_bgk.1 q)))|exact Hk g1 (by assumption)|exact rM g1 (ex_bgk.2 (gD g0 (by assumption))) (by assumption) g2 rfl|(have e0:=(by assumption:p.f.me=[]);have e1:=gD g0 (by assumption);exact rM g1 (ex_bgk.2 e1) (su e0) g2 (by rw[e0];rfl))))
 refine az ?_
 refine aG (dj p.v.id) ?_
 refine aM ?_ ?_
 refine aB (fun x4=> ?_)
 refine iI (fun hi5=> ?_) (fun _=>rfl)
 exact gE
 refine aM ?_ ?_
 refine iI (p:=∀y∈p.f.mb,¬(dj p.v.id) y) (fun hi6=> ?_) (fun _=>rfl)
 refine az ?_
 exact uT hK ⟨p.f.me,p.f.e,false=true⟩ (by dsimp only[ng]<;>(first|exact xi g1 (fun q=>iJ g0 (by assumption) (ex_bgk.1 q))|(have e0:=(by assumption:p.f.me=[]);rw[e0]at g1;exact xi g1 (fun q=>iJ g0 (by assumption) (ex_bgk.1 q)))|exact Hk g1 (by assumption)|exact rM g1 (ex_bgk.2 (gD g0 (by assumption))) (by assumption) g2 rfl|(have e0:=(by assumption:p.f.me=[]);have e1:=gD g0 (by assumption);exact rM g1 (ex_bgk.2 e1) (su e0) g2 (by rw[e0];rfl))))
 refine aB (fun x3=> ?_)
 refine iI (p:=x3∈p.f.mb∧(dj p.v.id) x3) (fun hi7=> ?_) (fun _=>rfl)
 refine aG (dj p.v.id) ?_
 refine aM ?_ ?_
 refine aB (fun x6=> ?_)
 refine iI (fun hi8=> ?_) (fun _=>rfl)
 exact gE
 refine aM ?_ ?_
 refine iI (p:=∀y∈p.f.me,¬(dj p.v.id) y) (fun hi9=> ?_) (fun _=>rfl)
 refine aG (dj p.v.id) ?_
 refine aM ?_ ?_
 refine aB (fun x8=> ?_)
 refine iI (fun hi10=> ?_) (fun _=>rfl)
 exact gE
 refine mI (by(try dsimp only);assumption) ?_
 refine aG p.v.id ?_
 refine az (az (az (az ?_)))
 refine aG [p.v] ?_
 refine jN ?_
 refine li (az ?_)
 exact uT hK ⟨p.f.me++[p.v.id],p.f.e++[p.v],true=true⟩ (by dsimp only[ng]<;>(first|exact xi g1 (fun q=>iJ g0 (by assumption) (ex_bgk.1 q))|(have e0:=(by assumption:p.f.me=[]);rw[e0]at g1;exact xi g1 (fun q=>iJ g0 (by assumption) (ex_bgk.1 q)))|exact Hk g1 (by assumption)|exact rM g1 (ex_bgk.2 (gD g0 (by assumption))) (by assumption) g2 rfl|(have e0:=(by assumption:p.f.me=[]);have e1:=gD g0 (by assumption);exact rM g1 (ex_bgk.2 e1) (su e0) g2 (by rw[e0];rfl))))
 refine aB (fun x5=> ?_)
 refine iI (p:=x5∈p.f.me∧(dj p.v.id) x5) (fun hi11=> ?_) (fun _=>rfl)
 refine az ?_
 exact uT hK ⟨p.f.me,p.f.e,false=true⟩ (by dsimp only[ng]<;>(first|exact xi g1 (fun q=>iJ g0 (by assumption) (ex_bgk.1 q))|(have e0:=(by assumption:p.f.me=[]);rw[e0]at g1;exact xi g1 (fun q=>iJ g0 (by assumption) (ex_bgk.1 q)))|exact Hk g1 (by assumption)|exact rM g1 (ex_bgk.2 (gD g0 (by assumption))) (by assumption) g2 rfl|(have e0:=(by assumption:p.f.me=[]);have e1:=gD g0 (by assumption);exact rM g1 (ex_bgk.2 e1) (su e0) g2 (by rw[e0];rfl))))
noncomputable def Fr:=bM BJ 1 (ce CM (dD ui Fd)) 17 [(1,15)]
theorem Eg:be Tryz.prog Fr:=aY (cX (f:=17) (k:=1) (aT BI) Rg (by rfl) (by rfl) Xl) BI
def Pi:XF:=.mk 29 (.one 4) (.aft (.pre [.kfork 0 0 4] (.seq (g_ 2 [e_ 0 3 (.box 115 (.t 1)),p_ 1 4 (.mv (.c (.bool false)))]) (.seq (g_ 5 [p_ 0 5 (f_ 14 3),r_ 1 6 (.ld true 3 (.t 5)),c_ 2 7 56 [.t 6],p_ 3 8 (f_ 14 3),cA 4 (.st 3 (.t 8) (.t 7))]) (.seq (h_ 21 [p_ 0 9 (m_ 0),c_ 1 10 46 [.t 9],p_ 2 11 (.un 0 (.t 10)),p_ 3 12 (m_ 11),aK 4 13 12 true (m_ 0),aK 5 14 12 true (n_ 13),aK 6 15 12 true (f_ 4 14),aK 7 16 12 true (f_ 0 3),bU 8 17 12 true (.ld true 2 (.t 16)),aK 9 18 12 true (f_ 2 3),bU 10 19 12 true (.ld true 10 (.t 18)),aK 11 20 12 true (f_ 12 3),bU 12 21 12 true (.ld true 2 (.t 20)),aK 13 22 12 true (f_ 14 3),bU 14 23 12 true (.ld true 3 (.t 22)),bU 17 26 12 true (.ld true 17 (.t 3)),qf 15 24 12 true 58 [.t 23],PM 8 17 12 true (.ld true 2 (.t 16)),PM 10 19 12 true (.ld true 10 (.t 18)),PM 12 21 12 true (.ld true 2 (.t 20)),PM 17 26 12 true (.ld true 17 (.t 3)),aK 16 25 12 true (.bld [.int 1 (.ofNat 0),.int 2 (.ofNat 0),.int 1 (.ofNat 0),.int 2 (.ofNat 0),.int 3 (.ofNat 0),.int 1 (.ofNat 0),.int 1 (.ofNat 0),.int 1 (.ofNat 0),.int 1 (.ofNat 0),.int 1 (.ofNat 0),.int 1 (.ofNat 0),.int 1 (.ofNat 0),.int 1 (.ofNat 0),.str [],.int 1 (.ofNat 0),.int 3 (.ofNat 0)] [(0,2),(2,10),(12,2),(14,2)] [.t 17,.t 19,.t 21,.t 24]),qf 18 27 12 true 57 [.t 15,.t 25,.t 26],p_ 19 28 (.pick (.t 12) (.t 27) (.c (.bool false))),p_ 20 4 (m_ 28)]) .ret)))) [(0,[.up 4,.kjoin 0 0 4 true false eD dZ cO]),(1,[.up 4,.kjoin 0 0 4 true false eD dZ cO])])
theorem QS:bT Tryz.prog 21 Pi=true:=by kernel_rfl
structure vq where
 f:bE
 v:cL
structure Nv where
 mt:List eD
 t:List cL
 q:Prop
def qJ (p:vq) (r:Nv):Prop:=r.t.length≤p.f.t.length+1
noncomputable def CF (p:vq):IE:=([.ptr 0 0,.agg (Ho p.v)],(bj p.f),13)
noncomputable def EU (p:vq) (K:KE):Bool:=aA fun r:Nv=>iP (qJ p r) (K (.sy (.bool r.q)) (bj ({p.f with mt:=r.mt,t:=r.t}:bE)) 13) true
def ub (p:vq):Prop:=p.v.ms.length≤20∧p.f.t.length≤80
theorem FA {p:vq} {K:KE} (hK:EU p K=true) (r:Nv) (h:qJ p r):K (.sy (.bool r.q)) (bj ({p.f with mt:=r.mt,t:=r.t}:bE)) 13=true:=aP h (aF hK r)
theorem Xa (p:vq) (K:KE) (hpre:ub p) (hK:EU p K=true):(bZ 1 (bH Fr) dT 600 Pi (CF p).1 (CF p).2.1 (CF p).2.2 K)=true:=by
 refine Eq.trans (b:=(ac (iP (p.f.mt=[]) (aX (([.sy (.imm p.v.hm 2 Proc p.v.ms bJ)],.leaf,0)) mK fj fc fun p1 r1=>ac (qL [qI 1 p.v.who.node,qI 2 p.v.who.life]) (ac (qL [qI 1 p.v.id.client.node,qI 2 p.v.id.client.life,qI 3 p.v.id.seq,qI 1 p.v.id.depth,qI 1 p.v.id.p0.group,qI 1 p.v.id.p0.index,qI 1 p.v.id.p1.group,qI 1 p.v.id.p1.index,qI 1 p.v.id.p2.group,qI 1 p.v.id.p2.index]) (ac (qL [qI 1 p.v.rc,qS p.v.rv]) (ac (qL [qI 1 p.v.who.node,qI 2 p.v.who.life,qI 1 p.v.id.client.node,qI 2 p.v.id.client.life,qI 3 p.v.id.seq,qI 1 p.v.id.depth,qI 1 p.v.id.p0.group,qI 1 p.v.id.p0.index,qI 1 p.v.id.p1.group,qI 1 p.v.id.p1.index,qI 1 p.v.id.p2.group,qI 1 p.v.id.p2.index,qI 1 p.v.rc,qS p.v.rv,qI 1 p.v.vg,qI 3 p.v.vn,qY ((.imm r1.h 2 Proc r1.o bJ))]) (mP (((.prow 6 p.f.t.length):SY)=(.prow 6 p.f.t.length)) (mP (p.f.t.length=p.f.t.length) (aI fun m1:List cL=>mP (dx (m1.map co) [[.sint 1 p.v.who.node,.sint 2 p.v.who.life,.sint 1 p.v.id.client.node,.sint 2 p.v.id.client.life,.sint 3 p.v.id.seq,.sint 1 p.v.id.depth,.sint 1 p.v.id.p0.group,.sint 1 p.v.id.p0.index,.sint 1 p.v.id.p1.group,.sint 1 p.v.id.p1.index,.sint 1 p.v.id.p2.group,.sint 1 p.v.id.p2.index,.sint 1 p.v.rc,.sstr p.v.rv,.sint 1 p.v.vg,.sint 3 p.v.vn,.imm r1.h 2 Proc r1.o bJ]]) (mP (dh 80 (p.f.t.length+m1.length)) (aI fun l1:List eD=>mP (([(.agg (WU ⟨p.v.who,p.v.id,p.v.rc,p.v.rv,p.v.vg,p.v.vn⟩),.bool true,0)]:List (AV×AV×Nat)).map (fun e=>(e.1,e.2.1))=l1.map (fun x=>(ch true (dZ x),ch false (cO x)))) (mP ((.map 20:AV)=(.map 20:AV)) (K (.sy (.bool (true=true))) (bj ({p.f with mt:=l1,t:=p.f.t++m1}:bE)) 13))))))))))) true) (mP ((.sy (.kmp 5):AV)=(.sy (.kmp 5):AV)) (aX (([.sy (.imm p.v.hm 2 Proc p.v.ms bJ)],.leaf,0)) mK fj fc fun p2 r2=>ac (qL [qI 1 p.v.who.node,qI 2 p.v.who.life]) (ac (qL [qI 1 p.v.id.client.node,qI 2 p.v.id.client.life,qI 3 p.v.id.seq,qI 1 p.v.id.depth,qI 1 p.v.id.p0.group,qI 1 p.v.id.p0.index,qI 1 p.v.id.p1.group,qI 1 p.v.id.p1.index,qI 1 p.v.id.p2.group,qI 1 p.v.id.p2.index]) (ac (qL [qI 1 p.v.rc,qS p.v.rv]) (ac (qL [qI 1 p.v.who.node,qI 2 p.v.who.life,qI 1 p.v.id.client.node,qI 2 p.v.id.client.life,qI 3 p.v.id.seq,qI 1 p.v.id.depth,qI 1 p.v.id.p0.group,qI 1 p.v.id.p0.index,qI 1 p.v.id.p1.group,qI 1 p.v.id.p1.index,qI 1 p.v.id.p2.group,qI 1 p.v.id.p2.index,qI 1 p.v.rc,qS p.v.rv,qI 1 p.v.vg,qI 3 p.v.vn,qY ((.imm r2.h 2 Proc r2.o bJ))]) (aI fun Q1:eD→Prop=>ac (aA fun x2:eD=>iP (x2∈p.f.mt) (DC ⟨p.v.who,p.v.id,p.v.rc,p.v.rv,p.v.vg,p.v.vn⟩ x2 (Q1 x2)) true) (ac (iP (∀y∈p.f.mt,¬Q1 y) (aI fun Q2:eD→Prop=>ac (aA fun x4:eD=>iP (x4∈p.f.mt) (DC ⟨p.v.who,p.v.id,p.v.rc,p.v.rv,p.v.vg,p.v.vn⟩ x4 (Q2 x4)) true) (mP (∀y∈p.f.mt,¬Q2 y) (aI fun x3:eD=>mP (ch true (dZ x3)=(.agg (WU ⟨p.v.who,p.v.id,p.v.rc,p.v.rv,p.v.vg,p.v.vn⟩))) (mP (ch false (cO x3)=(.bool true)) (mP (((.prow 6 p.f.t.length):SY)=(.prow 6 p.f.t.length)) (mP (p.f.t.length=p.f.t.length) (aI fun m2:List cL=>mP (dx (m2.map co) [[.sint 1 p.v.who.node,.sint 2 p.v.who.life,.sint 1 p.v.id.client.node,.sint 2 p.v.id.client.life,.sint 3 p.v.id.seq,.sint 1 p.v.id.depth,.sint 1 p.v.id.p0.group,.sint 1 p.v.id.p0.index,.sint 1 p.v.id.p1.group,.sint 1 p.v.id.p1.index,.sint 1 p.v.id.p2.group,.sint 1 p.v.id.p2.index,.sint 1 p.v.rc,.sstr p.v.rv,.sint 1 p.v.vg,.sint 3 p.v.vn,.imm r2.h 2 Proc r2.o bJ]]) (mP (dh 80 (p.f.t.length+m2.length)) (mP ((.map 5:AV)=(.map 5:AV)) (K (.sy (.bool (true=true))) (bj ({p.f with mt:=p.f.mt++[x3],t:=p.f.t++m2}:bE)) 13)))))))))) true) (aA fun x1:eD=>iP (x1∈p.f.mt∧Q1 x1) (mP ((.map 5:AV)=(.map 5:AV)) (K (.sy (.bool (false=true))) (bj p.f) 13)) true)))))))))) (by kernel_rfl) ?_
 dsimp only[ub]at hpre
 obtain⟨g0,g1⟩:=hpre
 refine aM ?_ ?_
 refine iI (fun hi1=> ?_) (fun _=>rfl)
 refine aJ (⟨p.v.hm,p.v.ms⟩:jM) rfl (by(try dsimp only[fj]);first|omega|(rw[hi1];omega)) fun r1 hi2=> ?_
 dsimp only[fc]at hi2
 refine aM (by simp[qL,qI,qS,qY,au]) ?_
 refine aM (by simp[qL,qI,qS,qY,au]) ?_
 refine aM (by simp[qL,qI,qS,qY,au]) ?_
 refine aM (by simp[qL,qI,qS,qY,au]) ?_
 refine az (az ?_)
 refine aG [({p.v with hm:=r1.h,ms:=r1.o}:cL)] ?_
 refine jN ?_
 refine li ?_
 refine aG [⟨p.v.who,p.v.id,p.v.rc,p.v.rv,p.v.vg,p.v.vn⟩] ?_
 refine az (az ?_)
 exact FA hK ⟨[⟨p.v.who,p.v.id,p.v.rc,p.v.rv,p.v.vg,p.v.vn⟩],p.f.t++[({p.v with hm:=r1.h,ms:=r1.o}:cL)],true=true⟩ (by dsimp only[qJ]<;>(first|omega|(simp only[acC,acD,acF];omega)))
 refine az ?_
 refine aJ (⟨p.v.hm,p.v.ms⟩:jM) rfl (by(try dsimp only[fj]);first|omega|(rw[hi0];omega)) fun r2 hi3=> ?_
 dsimp only[fc]at hi3
 refine aM (by simp[qL,qI,qS,qY,au]) ?_
 refine aM (by simp[qL,qI,qS,qY,au]) ?_
 refine aM (by simp[qL,qI,qS,qY,au]) ?_
 refine aM (by simp[qL,qI,qS,qY,au]) ?_
 refine aG (dj ⟨p.v.who,p.v.id,p.v.rc,p.v.rv,p.v.vg,p.v.vn⟩) ?_
 refine aM ?_ ?_
 refine aB (fun x2=> ?_)
 refine iI (fun hi4=> ?_) (fun _=>rfl)
 exact Hx
 refine aM ?_ ?_
 refine iI (p:=∀y∈p.f.mt,¬(dj ⟨p.v.who,p.v.id,p.v.rc,p.v.rv,p.v.vg,p.v.vn⟩) y) (fun hi5=> ?_) (fun _=>rfl)
 refine aG (dj ⟨p.v.who,p.v.id,p.v.rc,p.v.rv,p.v.vg,p.v.vn⟩) ?_
 refine aM ?_ ?_
 refine aB (fun x4=> ?_)
 refine iI (fun hi6=> ?_) (fun _=>rfl)
 exact Hx
 refine mI (by(try dsimp only);assumption) ?_
 refine aG ⟨p.v.who,p.v.id,p.v.rc,p.v.rv,p.v.vg,p.v.vn⟩ ?_
 refine az (az (az (az ?_)))
 refine aG [({p.v with hm:=r2.h,ms:=r2.o}:cL)] ?_
 refine jN ?_
 refine li (az ?_)
 exact FA hK ⟨p.f.mt++[⟨p.v.who,p.v.id,p.v.rc,p.v.rv,p.v.vg,p.v.vn⟩],p.f.t++[({p.v with hm:=r2.h,ms:=r2.o}:cL)],true=true⟩ (by dsimp only[qJ]<;>(first|omega|(simp only[acC,acD,acF];omega)))
 refine aB (fun x1=> ?_)
 refine iI (p:=x1∈p.f.mt∧(dj ⟨p.v.who,p.v.id,p.v.rc,p.v.rv,p.v.vg,p.v.vn⟩) x1) (fun hi7=> ?_) (fun _=>rfl)
 refine az ?_
 exact FA hK ⟨p.f.mt,p.f.t,false=true⟩ (by dsimp only[qJ]<;>(first|omega|(simp only[acC,acD,acF];omega)))
noncomputable def Fk:=bM Fr 1 (ce CF (dD ub EU)) 21 [(1,15)]
theorem DX:be Tryz.prog Fk:=aY (cX (f:=21) (k:=1) (aT Eg) QS (by rfl) (by rfl) Xa) Eg
def Tw:XF:=.mk 25 (.one 4) (.aft (.pre [.kfork 0 0 6] (.seq (g_ 2 [e_ 0 3 (.box 119 (.t 1)),p_ 1 4 (.mv (.c (.bool false)))]) (.seq (g_ 5 [p_ 0 5 (f_ 2 3),r_ 1 6 (.ld true 3 (.t 5)),c_ 2 7 56 [.t 6],p_ 3 8 (f_ 2 3),cA 4 (.st 3 (.t 8) (.t 7))]) (.seq (h_ 17 [p_ 0 9 (m_ 0),c_ 1 10 46 [.t 9],p_ 2 11 (.un 0 (.t 10)),p_ 3 12 (m_ 11),aK 4 13 12 true (m_ 0),aK 5 14 12 true (n_ 13),aK 6 15 12 true (f_ 6 14),aK 7 16 12 true (f_ 0 3),bU 8 17 12 true (.ld true 2 (.t 16)),aK 9 18 12 true (f_ 2 3),bU 10 19 12 true (.ld true 3 (.t 18)),bU 13 22 12 true (.ld true 5 (.t 3)),qf 11 20 12 true 58 [.t 19],PM 8 17 12 true (.ld true 2 (.t 16)),PM 13 22 12 true (.ld true 5 (.t 3)),aK 12 21 12 true (.bld [.int 1 (.ofNat 0),.int 2 (.ofNat 0),.int 1 (.ofNat 0),.int 3 (.ofNat 0)] [(0,2),(2,2)] [.t 17,.t 20]),qf 14 23 12 true 60 [.t 15,.t 21,.t 22],p_ 15 24 (.pick (.t 12) (.t 23) (.c (.bool false))),p_ 16 4 (m_ 24)]) .ret)))) [(0,[.up 4,.kjoin 0 0 6 true false eI ed cP]),(1,[.up 4,.kjoin 0 0 6 true false eI ed cP])])
theorem Tv:bT Tryz.prog 23 Tw=true:=by kernel_rfl
structure AH where
 f:bE
 v:cM
structure RN where
 ms:List eI
 s:List cM
 q:Prop
def uj (p:AH) (r:RN):Prop:=r.s.length≤p.f.s.length+1
noncomputable def HI (p:AH):IE:=([.ptr 0 0,.agg (Hp p.v)],(bj p.f),13)
noncomputable def Ih (p:AH) (K:KE):Bool:=aA fun r:RN=>iP (uj p r) (K (.sy (.bool r.q)) (bj ({p.f with ms:=r.ms,s:=r.s}:bE)) 13) true
def xE (p:AH):Prop:=p.v.ms.length≤20∧p.f.s.length≤80
theorem IK {p:AH} {K:KE} (hK:Ih p K=true) (r:RN) (h:uj p r):K (.sy (.bool r.q)) (bj ({p.f with ms:=r.ms,s:=r.s}:bE)) 13=true:=aP h (aF hK r)
theorem YQ (p:AH) (K:KE) (hpre:xE p) (hK:Ih p K=true):(bZ 1 (bH Fk) dT 600 Tw (HI p).1 (HI p).2.1 (HI p).2.2 K)=true:=by
 refine Eq.trans (b:=(ac (iP (p.f.ms=[]) (aX (([.sy (.imm p.v.hm 2 Proc p.v.ms bJ)],.leaf,0)) mK fj fc fun p1 r1=>ac (qL [qI 1 p.v.who.node,qI 2 p.v.who.life]) (ac (qL [qI 1 p.v.who.node,qI 2 p.v.who.life,qI 1 p.v.vg,qI 3 p.v.vn,qY ((.imm r1.h 2 Proc r1.o bJ))]) (mP (((.prow 8 p.f.s.length):SY)=(.prow 8 p.f.s.length)) (mP (p.f.s.length=p.f.s.length) (aI fun m1:List cM=>mP (dx (m1.map cp) [[.sint 1 p.v.who.node,.sint 2 p.v.who.life,.sint 1 p.v.vg,.sint 3 p.v.vn,.imm r1.h 2 Proc r1.o bJ]]) (mP (dh 40 (p.f.s.length+m1.length)) (aI fun l1:List eI=>mP (([(.agg [.sy (.int 1 p.v.who.node),.sy (.int 2 p.v.who.life),.sy (.int 1 p.v.vg),.sy (.int 3 p.v.vn)],.bool true,0)]:List (AV×AV×Nat)).map (fun e=>(e.1,e.2.1))=l1.map (fun x=>(ch true (ed x),ch false (cP x)))) (mP ((.map 20:AV)=(.map 20:AV)) (K (.sy (.bool (true=true))) (bj ({p.f with ms:=l1,s:=p.f.s++m1}:bE)) 13))))))))) true) (mP ((.sy (.kmp 7):AV)=(.sy (.kmp 7):AV)) (aX (([.sy (.imm p.v.hm 2 Proc p.v.ms bJ)],.leaf,0)) mK fj fc fun p2 r2=>ac (qL [qI 1 p.v.who.node,qI 2 p.v.who.life]) (ac (qL [qI 1 p.v.who.node,qI 2 p.v.who.life,qI 1 p.v.vg,qI 3 p.v.vn,qY ((.imm r2.h 2 Proc r2.o bJ))]) (aI fun Q1:eI→Prop=>ac (aA fun x2:eI=>iP (x2∈p.f.ms) (DD ⟨p.v.who,p.v.vg,p.v.vn⟩ x2 (Q1 x2)) true) (ac (iP (∀y∈p.f.ms,¬Q1 y) (aI fun Q2:eI→Prop=>ac (aA fun x4:eI=>iP (x4∈p.f.ms) (DD ⟨p.v.who,p.v.vg,p.v.vn⟩ x4 (Q2 x4)) true) (mP (∀y∈p.f.ms,¬Q2 y) (aI fun x3:eI=>mP (ch true (ed x3)=(.agg [.sy (.int 1 p.v.who.node),.sy (.int 2 p.v.who.life),.sy (.int 1 p.v.vg),.sy (.int 3 p.v.vn)])) (mP (ch false (cP x3)=(.bool true)) (mP (((.prow 8 p.f.s.length):SY)=(.prow 8 p.f.s.length)) (mP (p.f.s.length=p.f.s.length) (aI fun m2:List cM=>mP (dx (m2.map cp) [[.sint 1 p.v.who.node,.sint 2 p.v.who.life,.sint 1 p.v.vg,.sint 3 p.v.vn,.imm r2.h 2 Proc r2.o bJ]]) (mP (dh 40 (p.f.s.length+m2.length)) (mP ((.map 7:AV)=(.map 7:AV)) (K (.sy (.bool (true=true))) (bj ({p.f with ms:=p.f.ms++[x3],s:=p.f.s++m2}:bE)) 13)))))))))) true) (aA fun x1:eI=>iP (x1∈p.f.ms∧Q1 x1) (mP ((.map 7:AV)=(.map 7:AV)) (K (.sy (.bool (false=true))) (bj p.f) 13)) true)))))))) (by kernel_rfl) ?_
 dsimp only[xE]at hpre
 obtain⟨g0,g1⟩:=hpre
 refine aM ?_ ?_
 refine iI (fun hi1=> ?_) (fun _=>rfl)
 refine aJ (⟨p.v.hm,p.v.ms⟩:jM) rfl (by(try dsimp only[fj]);first|omega|(rw[hi1];omega)) fun r1 hi2=> ?_
 dsimp only[fc]at hi2
 refine aM (by simp[qL,qI,qS,qY,au]) ?_
 refine aM (by simp[qL,qI,qS,qY,au]) ?_
 refine az (az ?_)
 refine aG [({p.v with hm:=r1.h,ms:=r1.o}:cM)] ?_
 refine jN (li ?_)
 refine aG [⟨p.v.who,p.v.vg,p.v.vn⟩] ?_
 refine az (az ?_)
 exact IK hK ⟨[⟨p.v.who,p.v.vg,p.v.vn⟩],p.f.s++[({p.v with hm:=r1.h,ms:=r1.o}:cM)],true=true⟩ (by dsimp only[uj]<;>(first|omega|(simp only[acC,acD,acF];omega)))
 refine az ?_
 refine aJ (⟨p.v.hm,p.v.ms⟩:jM) rfl (by(try dsimp only[fj]);first|omega|(rw[hi0];omega)) fun r2 hi3=> ?_
 dsimp only[fc]at hi3
 refine aM (by simp[qL,qI,qS,qY,au]) ?_
 refine aM (by simp[qL,qI,qS,qY,au]) ?_
 refine aG (dj ⟨p.v.who,p.v.vg,p.v.vn⟩) ?_
 refine aM ?_ ?_
 refine aB (fun x2=> ?_)
 refine iI (fun hi4=> ?_) (fun _=>rfl)
 exact Hy
 refine aM ?_ ?_
 refine iI (p:=∀y∈p.f.ms,¬(dj ⟨p.v.who,p.v.vg,p.v.vn⟩) y) (fun hi5=> ?_) (fun _=>rfl)
 refine aG (dj ⟨p.v.who,p.v.vg,p.v.vn⟩) ?_
 refine aM ?_ ?_
 refine aB (fun x4=> ?_)
 refine iI (fun hi6=> ?_) (fun _=>rfl)
 exact Hy
 refine mI (by(try dsimp only);assumption) ?_
 refine aG ⟨p.v.who,p.v.vg,p.v.vn⟩ ?_
 refine az (az (az (az ?_)))
 refine aG [({p.v with hm:=r2.h,ms:=r2.o}:cM)] ?_
 refine jN (li (az ?_))
 exact IK hK ⟨p.f.ms++[⟨p.v.who,p.v.vg,p.v.vn⟩],p.f.s++[({p.v with hm:=r2.h,ms:=r2.o}:cM)],true=true⟩ (by dsimp only[uj]<;>(first|omega|(simp only[acC,acD,acF];omega)))
 refine aB (fun x1=> ?_)
 refine iI (p:=x1∈p.f.ms∧(dj ⟨p.v.who,p.v.vg,p.v.vn⟩) x1) (fun hi7=> ?_) (fun _=>rfl)
 refine az ?_
 exact IK hK ⟨p.f.ms,p.f.s,false=true⟩ (by dsimp only[uj]<;>(first|omega|(simp only[acC,acD,acF];omega)))
noncomputable def Is:=bM Fk 1 (ce HI (dD xE Ih)) 23 [(1,15)]
theorem GH:be Tryz.prog Is:=aY (cX (f:=23) (k:=1) (aT DX) Tv (by rfl) (by rfl) YQ) DX
def qe:XF:=.mk 69 (.one 8) (.aft (.seq (g_ 2 [e_ 0 7 (.box 108 (.t 3)),p_ 1 8 (.mv (.c (.bool false)))]) (.seq (.seq (g_ 21 [p_ 0 10 (m_ 0),c_ 1 11 46 [.t 10],p_ 2 12 (m_ 11),aK 3 13 12 false (m_ 1),aK 4 14 12 false (.bin 3 3 (.t 13) (.c (.int 1 (.ofNat 4)))),p_ 5 15 (.pick (.t 12) (.c (.bool true)) (.t 14)),p_ 6 16 (m_ 15),aK 7 17 16 false (m_ 2),aK 8 18 16 false (.bin 3 0 (.t 17) (i_ 0)),p_ 9 19 (.pick (.t 16) (.c (.bool true)) (.t 18)),p_ 10 20 (m_ 19),aK 11 21 20 false (m_ 2),aK 12 22 20 false (m_ 0),aK 13 23 20 false (m_ 1),aK 14 24 20 false (n_ 22),aK 15 25 20 false (f_ 8 24),aK 16 26 20 false (.ixa 4 1 (.t 25) (.t 23)),bU 17 27 20 false (l_ 26),aK 18 28 20 false (k_ 27),aK 19 29 20 false (.bin 3 2 (.t 21) (.t 28)),p_ 20 30 (.pick (.t 20) (.c (.bool true)) (.t 29))]) (.cond (.t 30) (.seq (g_ 1 [p_ 0 8 (.mv (.c (.bool false)))]) .ret) .skip)) (.seq (g_ 6 [p_ 0 31 (m_ 0),p_ 1 32 (m_ 1),p_ 2 33 (n_ 31),p_ 3 34 (f_ 8 33),p_ 4 35 (.ixa 4 1 (.t 34) (.t 32)),p_ 5 9 (m_ 35)]) (.seq (.block 2 (.seq (g_ 7 [p_ 0 37 (m_ 2),p_ 1 38 (m_ 9),p_ 2 39 (n_ 38),r_ 3 40 (l_ 39),p_ 4 41 (k_ 40),p_ 5 42 (.bin 3 4 (.t 37) (.t 41)),p_ 6 36 (m_ 42)]) (.cond (.t 36) (h_ 10 [p_ 0 43 (m_ 9),p_ 1 44 (m_ 9),p_ 2 45 (n_ 44),r_ 3 46 (l_ 45),r_ 4 47 (.ld true 18 (.t 7)),c_ 5 48 52 [.t 47],a_ 3 46 (l_ 45),e_ 6 49 (.bsl 108 18 1 [.int 1 (.ofNat 0),.int 1 (.ofNat 0),.int 2 (.ofNat 0),.int 3 (.ofNat 0),.int 1 (.ofNat 0),.int 1 (.ofNat 0),.int 1 (.ofNat 0),.int 1 (.ofNat 0),.int 1 (.ofNat 0),.int 1 (.ofNat 0),.int 1 (.ofNat 0),.int 3 (.ofNat 0),.nilS,.int 1 (.ofNat 0),.str [],.nilS,.int 1 (.ofNat 0),.int 2 (.ofNat 0)] [(0,18)] [.t 48]),a_ 3 46 (l_ 45),e_ 7 50 (.app 108 18 104 (.t 46) (.t 49)),p_ 8 51 (n_ 43),cA 9 (.st 1 (.t 51) (.t 50))]) (.seq (h_ 10 [p_ 0 53 (m_ 9),p_ 1 54 (n_ 53),r_ 2 55 (l_ 54),p_ 3 56 (m_ 2),p_ 4 57 (.ixs 18 (.t 55) (.t 56)),r_ 5 58 (.ld true 18 (.t 57)),r_ 6 59 (.ld true 18 (.t 7)),c_ 7 60 53 [.t 58,.t 59],p_ 8 61 (.un 0 (.t 60)),p_ 9 52 (m_ 61)]) (.cond (.t 52) (.seq (g_ 8 [p_ 0 62 (m_ 0),p_ 1 63 (n_ 62),p_ 2 64 (f_ 12 63),r_ 3 65 (l_ 64),p_ 4 66 (.bin 0 0 (.t 65) (i_ 1)),p_ 5 67 (n_ 62),p_ 6 68 (f_ 12 67),cA 7 (.st 1 (.t 68) (.t 66))]) (.seq (g_ 1 [p_ 0 8 (.mv (.c (.bool false)))]) .ret)) .skip))))) (.seq (g_ 1 [p_ 0 8 (.mv (.c (.bool true)))]) .ret))))) [(0,[.up 8]),(1,[.up 8])])
theorem ov:bT Tryz.prog 19 qe=true:=by kernel_rfl
structure mX where
 f:bE
 at_:Int
 v:ai
structure CE where
 o:List ai
 sp:Int
 q:Prop
def hP (p:mX) (r:CE):Prop:=(r.o.map aq=mH (p.f.o0.map aq) p.at_ (aq p.v)∧(∀x∈r.o,bp x)∧r.o.length≤p.f.o0.length+1)∧p.f.sp≤r.sp∧r.sp≤p.f.sp+1
noncomputable def sP (p:mX):IE:=([.ptr 0 0,.int 1 (.ofNat 0),.sy (.int 0 p.at_),.agg (br p.v)],(bj p.f),13)
noncomputable def wM (p:mX) (K:KE):Bool:=aA fun r:CE=>iP (hP p r) (K (.sy (.bool r.q)) (bj ({p.f with o0:=r.o,sp:=r.sp}:bE)) 13) true
def nP (p:mX):Prop:=(∀x∈p.f.o0,bp x)∧bp p.v∧p.f.o0.length≤80∧0≤p.f.sp∧p.f.sp≤80
theorem oc {p:mX} {K:KE} (hK:wM p K=true) (r:CE) (h:hP p r):K (.sy (.bool r.q)) (bj ({p.f with o0:=r.o,sp:=r.sp}:bE)) 13=true:=aP h (aF hK r)
theorem PV (p:mX) (K:KE) (hpre:nP p) (hK:wM p K=true):(bZ 1 (bH Is) dT 600 qe (sP p).1 (sP p).2.1 (sP p).2.2 K)=true:=by
 refine Eq.trans (b:=(iP (p.at_<(0:Int)) (K (.sy (.bool (false=true))) (bj p.f) 13) (iP ((p.f.o0.length:Int)<p.at_) (K (.sy (.bool (false=true))) (bj p.f) 13) (iP (p.at_=(p.f.o0.length:Int)) (aX (([.sy (.imm p.v.hp 5 aW p.v.ps encP)],.leaf,0)) eT bX bY fun p1 r1=>mP (((.imm p.v.hw 3 bg p.v.ws bb):SY)=(.imm p.v.hw 3 bg p.v.ws bb)) (aX (([.sy (.imm p.v.hw 3 bg p.v.ws bb)],.leaf,0)) gS cU cW fun p2 r2=>mP (((.prow 9 p.f.o0.length):SY)=(.prow 9 p.f.o0.length)) (mP (((.prow 9 p.f.o0.length):SY)=(.prow 9 p.f.o0.length)) (mP (p.f.o0.length=p.f.o0.length) (aI fun m1:List ai=>mP (dx (m1.map am) [[.sint 1 p.v.kind,.sint 1 p.v.id.client.node,.sint 2 p.v.id.client.life,.sint 3 p.v.id.seq,.sint 1 p.v.id.depth,.sint 1 p.v.id.p0.group,.sint 1 p.v.id.p0.index,.sint 1 p.v.id.p1.group,.sint 1 p.v.id.p1.index,.sint 1 p.v.id.p2.group,.sint 1 p.v.id.p2.index,.sint 3 p.v.floor,.imm r1.h 5 aW r1.o encP,.sint 1 p.v.rc,.sstr p.v.rv,.imm r2.h 3 bg r2.o bb,.sint 1 p.v.vic.node,.sint 2 p.v.vic.life]]) (mP (dh 104 (p.f.o0.length+m1.length)) (K (.sy (.bool (true=true))) (bj ({p.f with o0:=p.f.o0++m1}:bE)) 13))))))) (mP (0≤p.at_∧p.at_<(p.f.o0.length:Int)) (mP (p.at_.toNat<p.f.o0.length) (aA fun x1:ai=>iP (p.f.o0[p.at_.toNat]?=some x1) (aI fun p3:lq=>mP (([.agg (br ({x1 with id:=⟨⟨x1.id.client.node,x1.id.client.life⟩,x1.id.seq,x1.id.depth,⟨x1.id.p0.group,x1.id.p0.index⟩,⟨x1.id.p1.group,x1.id.p1.index⟩,⟨x1.id.p2.group,x1.id.p2.index⟩⟩,vic:=⟨x1.vic.node,x1.vic.life⟩}:ai)),.agg (br p.v)],.leaf,0)=sI p3) (mP (iy p3) (aA fun r3:jt=>iP (¬r3.q) (mP (aL 0 (p.f.sp+(1:Int))) (K (.sy (.bool (false=true))) (bj ({p.f with sp:=p.f.sp+(1:Int)}:bE)) 13)) (K (.sy (.bool (true=true))) (bj p.f) 13)))) true))))))) (by kernel_rfl) ?_
 dsimp only[nP]at hpre
 obtain⟨g0,g1,g2,g3,g4⟩:=hpre
 refine iI (fun hc1=> ?_) (fun hc1=> ?_)
 exact oc hK ⟨p.f.o0,p.f.sp,false=true⟩ (by dsimp only[hP]<;>(refine⟨?_,by omega,by omega⟩;first|exact cR g0 (by omega)|(have e1:=(by assumption:_=p.v.ps);have e2:=(by assumption:_=p.v.ws);exact cN g0 (by unfold bp dU fg;simp only;rw[e1,e2];exact g1) (by simp only[aq,e1]) (by omega))))
 refine iI (fun hc2=> ?_) (fun hc2=> ?_)
 exact oc hK ⟨p.f.o0,p.f.sp,false=true⟩ (by dsimp only[hP]<;>(refine⟨?_,by omega,by omega⟩;first|exact cR g0 (by omega)|(have e1:=(by assumption:_=p.v.ps);have e2:=(by assumption:_=p.v.ws);exact cN g0 (by unfold bp dU fg;simp only;rw[e1,e2];exact g1) (by simp only[aq,e1]) (by omega))))
 refine iI (fun hc3=> ?_) (fun hc3=> ?_)
 refine aJ (⟨p.v.hp,p.v.ps⟩:ek) rfl (by(try dsimp only[bX]);have:=g1.2.1.1;omega) fun r1 hi4=> ?_
 dsimp only[bY]at hi4
 refine az ?_
 refine aJ (⟨p.v.hw,p.v.ws⟩:fv) rfl (by(try dsimp only[cU]);exact g1.2.2) fun r2 hi5=> ?_
 dsimp only[cW]at hi5
 refine az (az (az ?_))
 refine aG [({p.v with hp:=r1.h,ps:=r1.o,hw:=r2.h,ws:=r2.o}:ai)] ?_
 refine jN ?_
 refine li ?_
 exact oc hK ⟨p.f.o0++[({p.v with hp:=r1.h,ps:=r1.o,hw:=r2.h,ws:=r2.o}:ai)],p.f.sp,true=true⟩ (by dsimp only[hP]<;>(refine⟨?_,by omega,by omega⟩;first|exact cR g0 (by omega)|(have e1:=(by assumption:_=p.v.ps);have e2:=(by assumption:_=p.v.ws);exact cN g0 (by unfold bp dU fg;simp only;rw[e1,e2];exact g1) (by simp only[aq,e1]) (by omega))))
 refine dL (fX ?_)
 refine aB (fun x1=> ?_)
 refine iI (fun hi6=> ?_) (fun _=>rfl)
 refine dG (⟨({x1 with id:=⟨⟨x1.id.client.node,x1.id.client.life⟩,x1.id.seq,x1.id.depth,⟨x1.id.p0.group,x1.id.p0.index⟩,⟨x1.id.p1.group,x1.id.p1.index⟩,⟨x1.id.p2.group,x1.id.p2.index⟩⟩,vic:=⟨x1.vic.node,x1.vic.life⟩}:ai),p.v⟩:lq) rfl (by(try dsimp only[iy]);exact⟨(g0 _ (acH (by assumption))).2,g1.2⟩) ?_
 refine aB (fun r3=> ?_)
 refine iI (fun hc7=> ?_) (fun hc7=> ?_)
 refine aN ?_
 exact oc hK ⟨p.f.o0,p.f.sp+(1:Int),false=true⟩ (by dsimp only[hP]<;>(refine⟨?_,by omega,by omega⟩;first|exact cR g0 (by omega)|(have e1:=(by assumption:_=p.v.ps);have e2:=(by assumption:_=p.v.ws);exact cN g0 (by unfold bp dU fg;simp only;rw[e1,e2];exact g1) (by simp only[aq,e1]) (by omega))))
 exact oc hK ⟨p.f.o0,p.f.sp,true=true⟩ (by dsimp only[hP]<;>(refine⟨?_,by omega,by omega⟩;first|exact cR g0 (by omega)|(have e1:=(by assumption:_=p.v.ps);have e2:=(by assumption:_=p.v.ws);exact cN g0 (by unfold bp dU fg;simp only;rw[e1,e2];exact g1) (by simp only[aq,e1]) (by omega))))
noncomputable def Af:dC:=qD (fun us M=>AR us 1 0) (ce sP (dD nP wM)) (fun _ _ _ _=>false)
theorem GG:cY Tryz.prog 19 1 Af:=iT (cX (f:=19) (k:=1) (aT GH) ov (by rfl) (by rfl) PV) Iw
noncomputable def xb:=bM Is 1 Af 19 [(1,1)]
theorem xR:be Tryz.prog xb:=aY GG GH
def Hb:XF:=qe
theorem KI:bT Tryz.prog 19 Hb=true:=ov
structure mW where
 f:bE
 at_:Int
 v:ai
structure CD where
 o:List ai
 sp:Int
 q:Prop
def hO (p:mW) (r:CD):Prop:=(r.o.map aq=mH (p.f.o1.map aq) p.at_ (aq p.v)∧(∀x∈r.o,bp x)∧r.o.length≤p.f.o1.length+1)∧p.f.sp≤r.sp∧r.sp≤p.f.sp+1
noncomputable def sO (p:mW):IE:=([.ptr 0 0,.int 1 (.ofNat 1),.sy (.int 0 p.at_),.agg (br p.v)],(bj p.f),13)
noncomputable def wL (p:mW) (K:KE):Bool:=aA fun r:CD=>iP (hO p r) (K (.sy (.bool r.q)) (bj ({p.f with o1:=r.o,sp:=r.sp}:bE)) 13) true
def nO (p:mW):Prop:=(∀x∈p.f.o1,bp x)∧bp p.v∧p.f.o1.length≤80∧0≤p.f.sp∧p.f.sp≤80
theorem oa {p:mW} {K:KE} (hK:wL p K=true) (r:CD) (h:hO p r):K (.sy (.bool r.q)) (bj ({p.f with o1:=r.o,sp:=r.sp}:bE)) 13=true:=aP h (aF hK r)
theorem PU (p:mW) (K:KE) (hpre:nO p) (hK:wL p K=true):(bZ 1 (bH xb) dT 600 Hb (sO p).1 (sO p).2.1 (sO p).2.2 K)=true:=by
 refine Eq.trans (b:=(iP (p.at_<(0:Int)) (K (.sy (.bool (false=true))) (bj p.f) 13) (iP ((p.f.o1.length:Int)<p.at_) (K (.sy (.bool (false=true))) (bj p.f) 13) (iP (p.at_=(p.f.o1.length:Int)) (aX (([.sy (.imm p.v.hp 5 aW p.v.ps encP)],.leaf,0)) eT bX bY fun p1 r1=>mP (((.imm p.v.hw 3 bg p.v.ws bb):SY)=(.imm p.v.hw 3 bg p.v.ws bb)) (aX (([.sy (.imm p.v.hw 3 bg p.v.ws bb)],.leaf,0)) gS cU cW fun p2 r2=>mP (((.prow 10 p.f.o1.length):SY)=(.prow 10 p.f.o1.length)) (mP (((.prow 10 p.f.o1.length):SY)=(.prow 10 p.f.o1.length)) (mP (p.f.o1.length=p.f.o1.length) (aI fun m1:List ai=>mP (dx (m1.map am) [[.sint 1 p.v.kind,.sint 1 p.v.id.client.node,.sint 2 p.v.id.client.life,.sint 3 p.v.id.seq,.sint 1 p.v.id.depth,.sint 1 p.v.id.p0.group,.sint 1 p.v.id.p0.index,.sint 1 p.v.id.p1.group,.sint 1 p.v.id.p1.index,.sint 1 p.v.id.p2.group,.sint 1 p.v.id.p2.index,.sint 3 p.v.floor,.imm r1.h 5 aW r1.o encP,.sint 1 p.v.rc,.sstr p.v.rv,.imm r2.h 3 bg r2.o bb,.sint 1 p.v.vic.node,.sint 2 p.v.vic.life]]) (mP (dh 104 (p.f.o1.length+m1.length)) (K (.sy (.bool (true=true))) (bj ({p.f with o1:=p.f.o1++m1}:bE)) 13))))))) (mP (0≤p.at_∧p.at_<(p.f.o1.length:Int)) (mP (p.at_.toNat<p.f.o1.length) (aA fun x1:ai=>iP (p.f.o1[p.at_.toNat]?=some x1) (aI fun p3:lq=>mP (([.agg (br ({x1 with id:=⟨⟨x1.id.client.node,x1.id.client.life⟩,x1.id.seq,x1.id.depth,⟨x1.id.p0.group,x1.id.p0.index⟩,⟨x1.id.p1.group,x1.id.p1.index⟩,⟨x1.id.p2.group,x1.id.p2.index⟩⟩,vic:=⟨x1.vic.node,x1.vic.life⟩}:ai)),.agg (br p.v)],.leaf,0)=sI p3) (mP (iy p3) (aA fun r3:jt=>iP (¬r3.q) (mP (aL 0 (p.f.sp+(1:Int))) (K (.sy (.bool (false=true))) (bj ({p.f with sp:=p.f.sp+(1:Int)}:bE)) 13)) (K (.sy (.bool (true=true))) (bj p.f) 13)))) true))))))) (by kernel_rfl) ?_
 dsimp only[nO]at hpre
 obtain⟨g0,g1,g2,g3,g4⟩:=hpre
 refine iI (fun hc1=> ?_) (fun hc1=> ?_)
 exact oa hK ⟨p.f.o1,p.f.sp,false=true⟩ (by dsimp only[hO]<;>(refine⟨?_,by omega,by omega⟩;first|exact cR g0 (by omega)|(have e1:=(by assumption:_=p.v.ps);have e2:=(by assumption:_=p.v.ws);exact cN g0 (by unfold bp dU fg;simp only;rw[e1,e2];exact g1) (by simp only[aq,e1]) (by omega))))
 refine iI (fun hc2=> ?_) (fun hc2=> ?_)
 exact oa hK ⟨p.f.o1,p.f.sp,false=true⟩ (by dsimp only[hO]<;>(refine⟨?_,by omega,by omega⟩;first|exact cR g0 (by omega)|(have e1:=(by assumption:_=p.v.ps);have e2:=(by assumption:_=p.v.ws);exact cN g0 (by unfold bp dU fg;simp only;rw[e1,e2];exact g1) (by simp only[aq,e1]) (by omega))))
 refine iI (fun hc3=> ?_) (fun hc3=> ?_)
 refine aJ (⟨p.v.hp,p.v.ps⟩:ek) rfl (by(try dsimp only[bX]);have:=g1.2.1.1;omega) fun r1 hi4=> ?_
 dsimp only[bY]at hi4
 refine az ?_
 refine aJ (⟨p.v.hw,p.v.ws⟩:fv) rfl (by(try dsimp only[cU]);exact g1.2.2) fun r2 hi5=> ?_
 dsimp only[cW]at hi5
 refine az (az (az ?_))
 refine aG [({p.v with hp:=r1.h,ps:=r1.o,hw:=r2.h,ws:=r2.o}:ai)] ?_
 refine jN ?_
 refine li ?_
 exact oa hK ⟨p.f.o1++[({p.v with hp:=r1.h,ps:=r1.o,hw:=r2.h,ws:=r2.o}:ai)],p.f.sp,true=true⟩ (by dsimp only[hO]<;>(refine⟨?_,by omega,by omega⟩;first|exact cR g0 (by omega)|(have e1:=(by assumption:_=p.v.ps);have e2:=(by assumption:_=p.v.ws);exact cN g0 (by unfold bp dU fg;simp only;rw[e1,e2];exact g1) (by simp only[aq,e1]) (by omega))))
 refine dL (fX ?_)
 refine aB (fun x1=> ?_)
 refine iI (fun hi6=> ?_) (fun _=>rfl)
 refine dG (⟨({x1 with id:=⟨⟨x1.id.client.node,x1.id.client.life⟩,x1.id.seq,x1.id.depth,⟨x1.id.p0.group,x1.id.p0.index⟩,⟨x1.id.p1.group,x1.id.p1.index⟩,⟨x1.id.p2.group,x1.id.p2.index⟩⟩,vic:=⟨x1.vic.node,x1.vic.life⟩}:ai),p.v⟩:lq) rfl (by(try dsimp only[iy]);exact⟨(g0 _ (acH (by assumption))).2,g1.2⟩) ?_
 refine aB (fun r3=> ?_)
 refine iI (fun hc7=> ?_) (fun hc7=> ?_)
 refine aN ?_
 exact oa hK ⟨p.f.o1,p.f.sp+(1:Int),false=true⟩ (by dsimp only[hO]<;>(refine⟨?_,by omega,by omega⟩;first|exact cR g0 (by omega)|(have e1:=(by assumption:_=p.v.ps);have e2:=(by assumption:_=p.v.ws);exact cN g0 (by unfold bp dU fg;simp only;rw[e1,e2];exact g1) (by simp only[aq,e1]) (by omega))))
 exact oa hK ⟨p.f.o1,p.f.sp,true=true⟩ (by dsimp only[hO]<;>(refine⟨?_,by omega,by omega⟩;first|exact cR g0 (by omega)|(have e1:=(by assumption:_=p.v.ps);have e2:=(by assumption:_=p.v.ws);exact cN g0 (by unfold bp dU fg;simp only;rw[e1,e2];exact g1) (by simp only[aq,e1]) (by omega))))
noncomputable def Ae:dC:=qD (fun us M=>AR us 1 1) (ce sO (dD nO wL)) Af
theorem GF:cY Tryz.prog 19 1 Ae:=iT (cX (f:=19) (k:=1) (aT xR) KI (by rfl) (by rfl) PU) GG
noncomputable def wZ:=bM xb 1 Ae 19 [(1,1)]
theorem xQ:be Tryz.prog wZ:=aY GF xR
def Ha:XF:=qe
theorem KH:bT Tryz.prog 19 Ha=true:=ov
structure mV where
 f:bE
 at_:Int
 v:ai
structure CC where
 o:List ai
 sp:Int
 q:Prop
def hC (p:mV) (r:CC):Prop:=(r.o.map aq=mH (p.f.o2.map aq) p.at_ (aq p.v)∧(∀x∈r.o,bp x)∧r.o.length≤p.f.o2.length+1)∧p.f.sp≤r.sp∧r.sp≤p.f.sp+1
noncomputable def sN (p:mV):IE:=([.ptr 0 0,.int 1 (.ofNat 2),.sy (.int 0 p.at_),.agg (br p.v)],(bj p.f),13)
noncomputable def wK (p:mV) (K:KE):Bool:=aA fun r:CC=>iP (hC p r) (K (.sy (.bool r.q)) (bj ({p.f with o2:=r.o,sp:=r.sp}:bE)) 13) true
def nN (p:mV):Prop:=(∀x∈p.f.o2,bp x)∧bp p.v∧p.f.o2.length≤80∧0≤p.f.sp∧p.f.sp≤80
theorem nZ {p:mV} {K:KE} (hK:wK p K=true) (r:CC) (h:hC p r):K (.sy (.bool r.q)) (bj ({p.f with o2:=r.o,sp:=r.sp}:bE)) 13=true:=aP h (aF hK r)
theorem PT (p:mV) (K:KE) (hpre:nN p) (hK:wK p K=true):(bZ 1 (bH wZ) dT 600 Ha (sN p).1 (sN p).2.1 (sN p).2.2 K)=true:=by
 refine Eq.trans (b:=(iP (p.at_<(0:Int)) (K (.sy (.bool (false=true))) (bj p.f) 13) (iP ((p.f.o2.length:Int)<p.at_) (K (.sy (.bool (false=true))) (bj p.f) 13) (iP (p.at_=(p.f.o2.length:Int)) (aX (([.sy (.imm p.v.hp 5 aW p.v.ps encP)],.leaf,0)) eT bX bY fun p1 r1=>mP (((.imm p.v.hw 3 bg p.v.ws bb):SY)=(.imm p.v.hw 3 bg p.v.ws bb)) (aX (([.sy (.imm p.v.hw 3 bg p.v.ws bb)],.leaf,0)) gS cU cW fun p2 r2=>mP (((.prow 11 p.f.o2.length):SY)=(.prow 11 p.f.o2.length)) (mP (((.prow 11 p.f.o2.length):SY)=(.prow 11 p.f.o2.length)) (mP (p.f.o2.length=p.f.o2.length) (aI fun m1:List ai=>mP (dx (m1.map am) [[.sint 1 p.v.kind,.sint 1 p.v.id.client.node,.sint 2 p.v.id.client.life,.sint 3 p.v.id.seq,.sint 1 p.v.id.depth,.sint 1 p.v.id.p0.group,.sint 1 p.v.id.p0.index,.sint 1 p.v.id.p1.group,.sint 1 p.v.id.p1.index,.sint 1 p.v.id.p2.group,.sint 1 p.v.id.p2.index,.sint 3 p.v.floor,.imm r1.h 5 aW r1.o encP,.sint 1 p.v.rc,.sstr p.v.rv,.imm r2.h 3 bg r2.o bb,.sint 1 p.v.vic.node,.sint 2 p.v.vic.life]]) (mP (dh 104 (p.f.o2.length+m1.length)) (K (.sy (.bool (true=true))) (bj ({p.f with o2:=p.f.o2++m1}:bE)) 13))))))) (mP (0≤p.at_∧p.at_<(p.f.o2.length:Int)) (mP (p.at_.toNat<p.f.o2.length) (aA fun x1:ai=>iP (p.f.o2[p.at_.toNat]?=some x1) (aI fun p3:lq=>mP (([.agg (br ({x1 with id:=⟨⟨x1.id.client.node,x1.id.client.life⟩,x1.id.seq,x1.id.depth,⟨x1.id.p0.group,x1.id.p0.index⟩,⟨x1.id.p1.group,x1.id.p1.index⟩,⟨x1.id.p2.group,x1.id.p2.index⟩⟩,vic:=⟨x1.vic.node,x1.vic.life⟩}:ai)),.agg (br p.v)],.leaf,0)=sI p3) (mP (iy p3) (aA fun r3:jt=>iP (¬r3.q) (mP (aL 0 (p.f.sp+(1:Int))) (K (.sy (.bool (false=true))) (bj ({p.f with sp:=p.f.sp+(1:Int)}:bE)) 13)) (K (.sy (.bool (true=true))) (bj p.f) 13)))) true))))))) (by kernel_rfl) ?_
 dsimp only[nN]at hpre
 obtain⟨g0,g1,g2,g3,g4⟩:=hpre
 refine iI (fun hc1=> ?_) (fun hc1=> ?_)
 exact nZ hK ⟨p.f.o2,p.f.sp,false=true⟩ (by dsimp only[hC]<;>(refine⟨?_,by omega,by omega⟩;first|exact cR g0 (by omega)|(have e1:=(by assumption:_=p.v.ps);have e2:=(by assumption:_=p.v.ws);exact cN g0 (by unfold bp dU fg;simp only;rw[e1,e2];exact g1) (by simp only[aq,e1]) (by omega))))
 refine iI (fun hc2=> ?_) (fun hc2=> ?_)
 exact nZ hK ⟨p.f.o2,p.f.sp,false=true⟩ (by dsimp only[hC]<;>(refine⟨?_,by omega,by omega⟩;first|exact cR g0 (by omega)|(have e1:=(by assumption:_=p.v.ps);have e2:=(by assumption:_=p.v.ws);exact cN g0 (by unfold bp dU fg;simp only;rw[e1,e2];exact g1) (by simp only[aq,e1]) (by omega))))
 refine iI (fun hc3=> ?_) (fun hc3=> ?_)
 refine aJ (⟨p.v.hp,p.v.ps⟩:ek) rfl (by(try dsimp only[bX]);have:=g1.2.1.1;omega) fun r1 hi4=> ?_
 dsimp only[bY]at hi4
 refine az ?_
 refine aJ (⟨p.v.hw,p.v.ws⟩:fv) rfl (by(try dsimp only[cU]);exact g1.2.2) fun r2 hi5=> ?_
 dsimp only[cW]at hi5
 refine az (az (az ?_))
 refine aG [({p.v with hp:=r1.h,ps:=r1.o,hw:=r2.h,ws:=r2.o}:ai)] ?_
 refine jN ?_
 refine li ?_
 exact nZ hK ⟨p.f.o2++[({p.v with hp:=r1.h,ps:=r1.o,hw:=r2.h,ws:=r2.o}:ai)],p.f.sp,true=true⟩ (by dsimp only[hC]<;>(refine⟨?_,by omega,by omega⟩;first|exact cR g0 (by omega)|(have e1:=(by assumption:_=p.v.ps);have e2:=(by assumption:_=p.v.ws);exact cN g0 (by unfold bp dU fg;simp only;rw[e1,e2];exact g1) (by simp only[aq,e1]) (by omega))))
 refine dL (fX ?_)
 refine aB (fun x1=> ?_)
 refine iI (fun hi6=> ?_) (fun _=>rfl)
 refine dG (⟨({x1 with id:=⟨⟨x1.id.client.node,x1.id.client.life⟩,x1.id.seq,x1.id.depth,⟨x1.id.p0.group,x1.id.p0.index⟩,⟨x1.id.p1.group,x1.id.p1.index⟩,⟨x1.id.p2.group,x1.id.p2.index⟩⟩,vic:=⟨x1.vic.node,x1.vic.life⟩}:ai),p.v⟩:lq) rfl (by(try dsimp only[iy]);exact⟨(g0 _ (acH (by assumption))).2,g1.2⟩) ?_
 refine aB (fun r3=> ?_)
 refine iI (fun hc7=> ?_) (fun hc7=> ?_)
 refine aN ?_
 exact nZ hK ⟨p.f.o2,p.f.sp+(1:Int),false=true⟩ (by dsimp only[hC]<;>(refine⟨?_,by omega,by omega⟩;first|exact cR g0 (by omega)|(have e1:=(by assumption:_=p.v.ps);have e2:=(by assumption:_=p.v.ws);exact cN g0 (by unfold bp dU fg;simp only;rw[e1,e2];exact g1) (by simp only[aq,e1]) (by omega))))
 exact nZ hK ⟨p.f.o2,p.f.sp,true=true⟩ (by dsimp only[hC]<;>(refine⟨?_,by omega,by omega⟩;first|exact cR g0 (by omega)|(have e1:=(by assumption:_=p.v.ps);have e2:=(by assumption:_=p.v.ws);exact cN g0 (by unfold bp dU fg;simp only;rw[e1,e2];exact g1) (by simp only[aq,e1]) (by omega))))
noncomputable def Ad:dC:=qD (fun us M=>AR us 1 2) (ce sN (dD nN wK)) Ae
theorem GE:cY Tryz.prog 19 1 Ad:=iT (cX (f:=19) (k:=1) (aT xQ) KH (by rfl) (by rfl) PT) GF
noncomputable def wY:=bM wZ 1 Ad 19 [(1,1)]
theorem xP:be Tryz.prog wY:=aY GE xQ
def GZ:XF:=qe
theorem KG:bT Tryz.prog 19 GZ=true:=ov
structure mU where
 f:bE
 at_:Int
 v:ai
structure CB where
 o:List ai
 sp:Int
 q:Prop
def gZ (p:mU) (r:CB):Prop:=(r.o.map aq=mH (p.f.o3.map aq) p.at_ (aq p.v)∧(∀x∈r.o,bp x)∧r.o.length≤p.f.o3.length+1)∧p.f.sp≤r.sp∧r.sp≤p.f.sp+1
noncomputable def sM (p:mU):IE:=([.ptr 0 0,.int 1 (.ofNat 3),.sy (.int 0 p.at_),.agg (br p.v)],(bj p.f),13)
noncomputable def wJ (p:mU) (K:KE):Bool:=aA fun r:CB=>iP (gZ p r) (K (.sy (.bool r.q)) (bj ({p.f with o3:=r.o,sp:=r.sp}:bE)) 13) true
def nM (p:mU):Prop:=(∀x∈p.f.o3,bp x)∧bp p.v∧p.f.o3.length≤80∧0≤p.f.sp∧p.f.sp≤80
theorem nY {p:mU} {K:KE} (hK:wJ p K=true) (r:CB) (h:gZ p r):K (.sy (.bool r.q)) (bj ({p.f with o3:=r.o,sp:=r.sp}:bE)) 13=true:=aP h (aF hK r)
theorem PS (p:mU) (K:KE) (hpre:nM p) (hK:wJ p K=true):(bZ 1 (bH wY) dT 600 GZ (sM p).1 (sM p).2.1 (sM p).2.2 K)=true:=by
 refine Eq.trans (b:=(iP (p.at_<(0:Int)) (K (.sy (.bool (false=true))) (bj p.f) 13) (iP ((p.f.o3.length:Int)<p.at_) (K (.sy (.bool (false=true))) (bj p.f) 13) (iP (p.at_=(p.f.o3.length:Int)) (aX (([.sy (.imm p.v.hp 5 aW p.v.ps encP)],.leaf,0)) eT bX bY fun p1 r1=>mP (((.imm p.v.hw 3 bg p.v.ws bb):SY)=(.imm p.v.hw 3 bg p.v.ws bb)) (aX (([.sy (.imm p.v.hw 3 bg p.v.ws bb)],.leaf,0)) gS cU cW fun p2 r2=>mP (((.prow 12 p.f.o3.length):SY)=(.prow 12 p.f.o3.length)) (mP (((.prow 12 p.f.o3.length):SY)=(.prow 12 p.f.o3.length)) (mP (p.f.o3.length=p.f.o3.length) (aI fun m1:List ai=>mP (dx (m1.map am) [[.sint 1 p.v.kind,.sint 1 p.v.id.client.node,.sint 2 p.v.id.client.life,.sint 3 p.v.id.seq,.sint 1 p.v.id.depth,.sint 1 p.v.id.p0.group,.sint 1 p.v.id.p0.index,.sint 1 p.v.id.p1.group,.sint 1 p.v.id.p1.index,.sint 1 p.v.id.p2.group,.sint 1 p.v.id.p2.index,.sint 3 p.v.floor,.imm r1.h 5 aW r1.o encP,.sint 1 p.v.rc,.sstr p.v.rv,.imm r2.h 3 bg r2.o bb,.sint 1 p.v.vic.node,.sint 2 p.v.vic.life]]) (mP (dh 104 (p.f.o3.length+m1.length)) (K (.sy (.bool (true=true))) (bj ({p.f with o3:=p.f.o3++m1}:bE)) 13))))))) (mP (0≤p.at_∧p.at_<(p.f.o3.length:Int)) (mP (p.at_.toNat<p.f.o3.length) (aA fun x1:ai=>iP (p.f.o3[p.at_.toNat]?=some x1) (aI fun p3:lq=>mP (([.agg (br ({x1 with id:=⟨⟨x1.id.client.node,x1.id.client.life⟩,x1.id.seq,x1.id.depth,⟨x1.id.p0.group,x1.id.p0.index⟩,⟨x1.id.p1.group,x1.id.p1.index⟩,⟨x1.id.p2.group,x1.id.p2.index⟩⟩,vic:=⟨x1.vic.node,x1.vic.life⟩}:ai)),.agg (br p.v)],.leaf,0)=sI p3) (mP (iy p3) (aA fun r3:jt=>iP (¬r3.q) (mP (aL 0 (p.f.sp+(1:Int))) (K (.sy (.bool (false=true))) (bj ({p.f with sp:=p.f.sp+(1:Int)}:bE)) 13)) (K (.sy (.bool (true=true))) (bj p.f) 13)))) true))))))) (by kernel_rfl) ?_
 dsimp only[nM]at hpre
 obtain⟨g0,g1,g2,g3,g4⟩:=hpre
 refine iI (fun hc1=> ?_) (fun hc1=> ?_)
 exact nY hK ⟨p.f.o3,p.f.sp,false=true⟩ (by dsimp only[gZ]<;>(refine⟨?_,by omega,by omega⟩;first|exact cR g0 (by omega)|(have e1:=(by assumption:_=p.v.ps);have e2:=(by assumption:_=p.v.ws);exact cN g0 (by unfold bp dU fg;simp only;rw[e1,e2];exact g1) (by simp only[aq,e1]) (by omega))))
 refine iI (fun hc2=> ?_) (fun hc2=> ?_)
 exact nY hK ⟨p.f.o3,p.f.sp,false=true⟩ (by dsimp only[gZ]<;>(refine⟨?_,by omega,by omega⟩;first|exact cR g0 (by omega)|(have e1:=(by assumption:_=p.v.ps);have e2:=(by assumption:_=p.v.ws);exact cN g0 (by unfold bp dU fg;simp only;rw[e1,e2];exact g1) (by simp only[aq,e1]) (by omega))))
 refine iI (fun hc3=> ?_) (fun hc3=> ?_)
 refine aJ (⟨p.v.hp,p.v.ps⟩:ek) rfl (by(try dsimp only[bX]);have:=g1.2.1.1;omega) fun r1 hi4=> ?_
 dsimp only[bY]at hi4
 refine az ?_
 refine aJ (⟨p.v.hw,p.v.ws⟩:fv) rfl (by(try dsimp only[cU]);exact g1.2.2) fun r2 hi5=> ?_
 dsimp only[cW]at hi5
 refine az (az (az ?_))
 refine aG [({p.v with hp:=r1.h,ps:=r1.o,hw:=r2.h,ws:=r2.o}:ai)] ?_
 refine jN ?_
 refine li ?_
 exact nY hK ⟨p.f.o3++[({p.v with hp:=r1.h,ps:=r1.o,hw:=r2.h,ws:=r2.o}:ai)],p.f.sp,true=true⟩ (by dsimp only[gZ]<;>(refine⟨?_,by omega,by omega⟩;first|exact cR g0 (by omega)|(have e1:=(by assumption:_=p.v.ps);have e2:=(by assumption:_=p.v.ws);exact cN g0 (by unfold bp dU fg;simp only;rw[e1,e2];exact g1) (by simp only[aq,e1]) (by omega))))
 refine dL (fX ?_)
 refine aB (fun x1=> ?_)
 refine iI (fun hi6=> ?_) (fun _=>rfl)
 refine dG (⟨({x1 with id:=⟨⟨x1.id.client.node,x1.id.client.life⟩,x1.id.seq,x1.id.depth,⟨x1.id.p0.group,x1.id.p0.index⟩,⟨x1.id.p1.group,x1.id.p1.index⟩,⟨x1.id.p2.group,x1.id.p2.index⟩⟩,vic:=⟨x1.vic.node,x1.vic.life⟩}:ai),p.v⟩:lq) rfl (by(try dsimp only[iy]);exact⟨(g0 _ (acH (by assumption))).2,g1.2⟩) ?_
 refine aB (fun r3=> ?_)
 refine iI (fun hc7=> ?_) (fun hc7=> ?_)
 refine aN ?_
 exact nY hK ⟨p.f.o3,p.f.sp+(1:Int),false=true⟩ (by dsimp only[gZ]<;>(refine⟨?_,by omega,by omega⟩;first|exact cR g0 (by omega)|(have e1:=(by assumption:_=p.v.ps);have e2:=(by assumption:_=p.v.ws);exact cN g0 (by unfold bp dU fg;simp only;rw[e1,e2];exact g1) (by simp only[aq,e1]) (by omega))))
 exact nY hK ⟨p.f.o3,p.f.sp,true=true⟩ (by dsimp only[gZ]<;>(refine⟨?_,by omega,by omega⟩;first|exact cR g0 (by omega)|(have e1:=(by assumption:_=p.v.ps);have e2:=(by assumption:_=p.v.ws);exact cN g0 (by unfold bp dU fg;simp only;rw[e1,e2];exact g1) (by simp only[aq,e1]) (by omega))))
noncomputable def Hj:dC:=qD (fun us M=>AR us 1 3) (ce sM (dD nM wJ)) Ad
theorem QF:cY Tryz.prog 19 1 Hj:=iT (cX (f:=19) (k:=1) (aT xP) KG (by rfl) (by rfl) PS) GE
noncomputable def wX:=bM wY 1 Hj 19 [(1,1)]
theorem xO:be Tryz.prog wX:=aY QF xP
def GY:XF:=.mk 69 (.one 8) (.aft (.seq (g_ 2 [e_ 0 7 (.box 108 (.t 3)),p_ 1 8 (.mv (.c (.bool false)))]) (.seq (.seq (g_ 21 [p_ 0 10 (m_ 0),c_ 1 11 46 [.t 10],p_ 2 12 (m_ 11),aK 3 13 12 false (m_ 1),aK 4 14 12 false (.bin 3 3 (.t 13) (.c (.int 1 (.ofNat 4)))),p_ 5 15 (.pick (.t 12) (.c (.bool true)) (.t 14)),p_ 6 16 (m_ 15),aK 7 17 16 false (m_ 2),aK 8 18 16 false (.bin 3 0 (.t 17) (i_ 0)),p_ 9 19 (.pick (.t 16) (.c (.bool true)) (.t 18)),p_ 10 20 (m_ 19),aK 11 21 20 false (m_ 2),aK 12 22 20 false (m_ 0),aK 13 23 20 false (m_ 1),aK 14 24 20 false (n_ 22),aK 15 25 20 false (f_ 8 24),aK 16 26 20 false (.ixa 4 1 (.t 25) (.t 23)),bU 17 27 20 false (l_ 26),aK 18 28 20 false (k_ 27),aK 19 29 20 false (.bin 3 2 (.t 21) (.t 28)),p_ 20 30 (.pick (.t 20) (.c (.bool true)) (.t 29))]) (.cond (.t 30) (.seq (g_ 1 [p_ 0 8 (.mv (.c (.bool false)))]) .ret) .skip)) (.seq (.pre [.die] (g_ 6 [p_ 0 31 (m_ 0),p_ 1 32 (m_ 1),p_ 2 33 (n_ 31),p_ 3 34 (f_ 8 33),p_ 4 35 (.ixa 4 1 (.t 34) (.t 32)),p_ 5 9 (m_ 35)])) (.seq (.block 2 (.seq (g_ 7 [p_ 0 37 (m_ 2),p_ 1 38 (m_ 9),p_ 2 39 (n_ 38),r_ 3 40 (l_ 39),p_ 4 41 (k_ 40),p_ 5 42 (.bin 3 4 (.t 37) (.t 41)),p_ 6 36 (m_ 42)]) (.cond (.t 36) (h_ 10 [p_ 0 43 (m_ 9),p_ 1 44 (m_ 9),p_ 2 45 (n_ 44),r_ 3 46 (l_ 45),r_ 4 47 (.ld true 18 (.t 7)),c_ 5 48 52 [.t 47],a_ 3 46 (l_ 45),e_ 6 49 (.bsl 108 18 1 [.int 1 (.ofNat 0),.int 1 (.ofNat 0),.int 2 (.ofNat 0),.int 3 (.ofNat 0),.int 1 (.ofNat 0),.int 1 (.ofNat 0),.int 1 (.ofNat 0),.int 1 (.ofNat 0),.int 1 (.ofNat 0),.int 1 (.ofNat 0),.int 1 (.ofNat 0),.int 3 (.ofNat 0),.nilS,.int 1 (.ofNat 0),.str [],.nilS,.int 1 (.ofNat 0),.int 2 (.ofNat 0)] [(0,18)] [.t 48]),a_ 3 46 (l_ 45),e_ 7 50 (.app 108 18 104 (.t 46) (.t 49)),p_ 8 51 (n_ 43),cA 9 (.st 1 (.t 51) (.t 50))]) (.seq (h_ 10 [p_ 0 53 (m_ 9),p_ 1 54 (n_ 53),r_ 2 55 (l_ 54),p_ 3 56 (m_ 2),p_ 4 57 (.ixs 18 (.t 55) (.t 56)),r_ 5 58 (.ld true 18 (.t 57)),r_ 6 59 (.ld true 18 (.t 7)),c_ 7 60 53 [.t 58,.t 59],p_ 8 61 (.un 0 (.t 60)),p_ 9 52 (m_ 61)]) (.cond (.t 52) (.seq (g_ 8 [p_ 0 62 (m_ 0),p_ 1 63 (n_ 62),p_ 2 64 (f_ 12 63),r_ 3 65 (l_ 64),p_ 4 66 (.bin 0 0 (.t 65) (i_ 1)),p_ 5 67 (n_ 62),p_ 6 68 (f_ 12 67),cA 7 (.st 1 (.t 68) (.t 66))]) (.seq (g_ 1 [p_ 0 8 (.mv (.c (.bool false)))]) .ret)) .skip))))) (.seq (g_ 1 [p_ 0 8 (.mv (.c (.bool true)))]) .ret))))) [(0,[.up 8]),(1,[.up 8])])
theorem KF:bT Tryz.prog 19 GY=true:=by kernel_rfl
structure py where
 f:bE
 g:Int
 at_:Int
 v:ai
structure ku where
 q:Prop
noncomputable def sL (p:py):IE:=([.ptr 0 0,.sy (.int 1 p.g),.sy (.int 0 p.at_),.agg (br p.v)],(bj p.f),13)
noncomputable def DT (p:py) (K:KE):Bool:=aA fun r:ku=>K (.sy (.bool r.q)) (bj p.f) 13
def nL (p:py):Prop:=4≤p.g∧p.g≤255
theorem PR (p:py) (K:KE) (hpre:nL p) (hK:DT p K=true):(bZ 1 (bH wX) dT 600 GY (sL p).1 (sL p).2.1 (sL p).2.2 K)=true:=by
 refine Eq.trans (b:=(let z0:Bool:=(K (.sy (.bool (false=true))) (bj p.f) 13);iP ((4:Int)≤p.g) z0 (iP (p.at_<(0:Int)) z0 (iP (p.g=0) (iP ((p.f.o0.length:Int)<p.at_) z0 (false)) (iP (p.g=1) (iP ((p.f.o1.length:Int)<p.at_) z0 (false)) (iP (p.g=2) (iP ((p.f.o2.length:Int)<p.at_) z0 (false)) (iP (p.g=3) (iP ((p.f.o3.length:Int)<p.at_) z0 (false)) (mP (False) (true))))))))) (by kernel_rfl) ?_
 dsimp only[nL]at hpre
 obtain⟨g0,g1⟩:=hpre
 refine iI (fun hc1=> ?_) (fun hc1=> ?_)
 exact aF hK (⟨false=true⟩:ku)
 refine iI (fun hc2=> ?_) (fun hc2=> ?_)
 exact aF hK (⟨false=true⟩:ku)
 refine iI (fun hc3=> ?_) (fun hc3=> ?_)
 refine iI (fun hc4=> ?_) (fun hc4=> ?_)
 exact aF hK (⟨false=true⟩:ku)
 exfalso;omega
 refine iI (fun hc5=> ?_) (fun hc5=> ?_)
 refine iI (fun hc6=> ?_) (fun hc6=> ?_)
 exact aF hK (⟨false=true⟩:ku)
 exfalso;omega
 refine iI (fun hc7=> ?_) (fun hc7=> ?_)
 refine iI (fun hc8=> ?_) (fun hc8=> ?_)
 exact aF hK (⟨false=true⟩:ku)
 exfalso;omega
 refine iI (fun hc9=> ?_) (fun hc9=> ?_)
 refine iI (fun hc10=> ?_) (fun hc10=> ?_)
 exact aF hK (⟨false=true⟩:ku)
 exfalso;omega
 refine fX ?_
 rfl
noncomputable def wW:=bM wX 1 (ce sL (dD nL DT)) 19 [(1,20)]
theorem xN:be Tryz.prog wW:=aY (cX (f:=19) (k:=1) (aT xO) KF (by rfl) (by rfl) PR) xO
structure KyR where
 b:List BgK
 e:List EdR
 o0:List lJ
 o1:List lJ
 o2:List lJ
 o3:List lJ
def bB (f:bE):KyR:=⟨f.b.map bN,f.e,f.o0.map aq,f.o1.map aq,f.o2.map aq,f.o3.map aq⟩
def aS (f:bW):KyR:=⟨f.b.map bN,f.e,f.o0.map aq,f.o1.map aq,f.o2.map aq,f.o3.map aq⟩
noncomputable def Gm (j:Int) (a:ez) (l:List lJ):List lJ:=if a.kind=2∧a.g=j then mH l a.at_ (aq a.l) else l
noncomputable def nI (a:ez) (x:KyR):KyR:=⟨if a.kind=0 then td x.b (bN a.b) else x.b,if a.kind=1 then qp x.b x.e a.e else x.e,Gm 0 a x.o0,Gm 1 a x.o1,Gm 2 a x.o2,Gm 3 a x.o3⟩
theorem dr {j:Int} {a:ez} {l:List lJ} (h:¬(a.kind=2∧a.g=j)):Gm j a l=l:=if_neg h
theorem gI {a:ez} {x:KyR} {b:List BgK} (h:a.kind=0) (hb:b=td x.b (bN a.b)):⟨b,x.e,x.o0,x.o1,x.o2,x.o3⟩=nI a x:=by
 unfold nI
 rw[if_pos h,if_neg (by omega),dr (by omega),dr (by omega),dr (by omega),dr (by omega),hb]
theorem gH {a:ez} {x:KyR} {e:List EdR} (h:a.kind=1) (he:e=qp x.b x.e a.e):⟨x.b,e,x.o0,x.o1,x.o2,x.o3⟩=nI a x:=by
 unfold nI
 rw[if_neg (by omega),if_pos h,dr (by omega),dr (by omega),dr (by omega),dr (by omega),he]
theorem eZ {a:ez} {x:KyR} (h0:¬a.kind=0) (h1:¬a.kind=1) (h2:¬a.kind=2):x=nI a x:=by
 unfold nI
 rw[if_neg h0,if_neg h1,dr (by omega),dr (by omega),dr (by omega),dr (by omega)]
theorem gG {a:ez} {x:KyR} (h2:a.kind=2) (h3:4≤a.g):x=nI a x:=by
 unfold nI
 rw[if_neg (by omega),if_neg (by omega),dr (by omega),dr (by omega),dr (by omega),dr (by omega)]
theorem eY {a:ez} {x:KyR} {o:List lJ} {v:ai} (h:a.kind=2) (hg:a.g=0) (hv:aq v=aq a.l) (ho:o=mH x.o0 a.at_ (aq v)):⟨x.b,x.e,o,x.o1,x.o2,x.o3⟩=nI a x:=by
 unfold nI
 rw[if_neg (by omega),if_neg (by omega),dr (j:=1) (by omega),dr (j:=2) (by omega),dr (j:=3) (by omega),ho,hv]
 unfold Gm
 rw[if_pos ⟨h,hg⟩]
theorem eX {a:ez} {x:KyR} {o:List lJ} {v:ai} (h:a.kind=2) (hg:a.g=1) (hv:aq v=aq a.l) (ho:o=mH x.o1 a.at_ (aq v)):⟨x.b,x.e,x.o0,o,x.o2,x.o3⟩=nI a x:=by
 unfold nI
 rw[if_neg (by omega),if_neg (by omega),dr (j:=0) (by omega),dr (j:=2) (by omega),dr (j:=3) (by omega),ho,hv]
 unfold Gm
 rw[if_pos ⟨h,hg⟩]
theorem eW {a:ez} {x:KyR} {o:List lJ} {v:ai} (h:a.kind=2) (hg:a.g=2) (hv:aq v=aq a.l) (ho:o=mH x.o2 a.at_ (aq v)):⟨x.b,x.e,x.o0,x.o1,o,x.o3⟩=nI a x:=by
 unfold nI
 rw[if_neg (by omega),if_neg (by omega),dr (j:=0) (by omega),dr (j:=1) (by omega),dr (j:=3) (by omega),ho,hv]
 unfold Gm
 rw[if_pos ⟨h,hg⟩]
theorem eV {a:ez} {x:KyR} {o:List lJ} {v:ai} (h:a.kind=2) (hg:a.g=3) (hv:aq v=aq a.l) (ho:o=mH x.o3 a.at_ (aq v)):⟨x.b,x.e,x.o0,x.o1,x.o2,o⟩=nI a x:=by
 unfold nI
 rw[if_neg (by omega),if_neg (by omega),dr (j:=0) (by omega),dr (j:=1) (by omega),dr (j:=2) (by omega),ho,hv]
 unfold Gm
 rw[if_pos ⟨h,hg⟩]
def jY (f:bE):Prop:=fh f.mb f.b∧eS f.me f.e∧(∀x∈f.o0,bp x)∧(∀x∈f.o1,bp x)∧(∀x∈f.o2,bp x)∧∀x∈f.o3,bp x
def bC (f:bE) (k:Int):Prop:=((f.b.length:Int)≤k∧(f.e.length:Int)≤k∧(f.t.length:Int)≤k∧(f.s.length:Int)≤k)∧((f.o0.length:Int)≤k∧(f.o1.length:Int)≤k∧(f.o2.length:Int)≤k∧(f.o3.length:Int)≤k)∧0≤f.sp∧f.sp≤k
def aaS (a:ez):Prop:=yH a∧BP a
def TJ:XF:=.mk 46 (.one 4) (.aft (.seq (g_ 2 [e_ 0 3 (.box 64 (.t 1)),p_ 1 4 (.mv (.c (.bool false)))]) (.seq (.seq (g_ 2 [p_ 0 5 (f_ 0 3),r_ 1 6 (l_ 5)]) (.block 2 (.seq (g_ 2 [p_ 0 8 (.bin 3 4 (.t 6) (i_ 0)),p_ 1 7 (m_ 8)]) (.cond (.t 7) (.seq (g_ 6 [p_ 0 9 (m_ 0),p_ 1 10 (f_ 3 3),r_ 2 11 (.ld true 14 (.t 10)),c_ 3 12 16 [.t 11],c_ 4 13 15 [.t 9,.t 12],p_ 5 4 (m_ 13)]) .ret) (.seq (g_ 2 [p_ 0 15 (.bin 3 4 (.t 6) (i_ 1)),p_ 1 14 (m_ 15)]) (.cond (.t 14) (.seq (g_ 6 [p_ 0 16 (m_ 0),p_ 1 17 (f_ 17 3),r_ 2 18 (.ld true 17 (.t 17)),c_ 3 19 18 [.t 18],c_ 4 20 17 [.t 16,.t 19],p_ 5 4 (m_ 20)]) .ret) (.seq (g_ 2 [p_ 0 22 (.bin 3 4 (.t 6) (i_ 2)),p_ 1 21 (m_ 22)]) (.cond (.t 21) (.seq (.pre [.fixo 13 0 2 4] (h_ 10 [p_ 0 23 (m_ 0),p_ 1 24 (f_ 2 3),r_ 2 25 (l_ 24),p_ 3 26 (f_ 1 3),r_ 4 27 (l_ 26),p_ 5 28 (f_ 56 3),r_ 6 29 (.ld true 18 (.t 28)),c_ 7 30 20 [.t 29],a_ 2 25 (l_ 24),a_ 4 27 (l_ 26),c_ 8 31 19 [.t 23,.t 25,.t 27,.t 30],p_ 9 4 (m_ 31)])) .ret) (.seq (g_ 2 [p_ 0 33 (.bin 3 4 (.t 6) (i_ 3)),p_ 1 32 (m_ 33)]) (.cond (.t 32) (.seq (g_ 6 [p_ 0 34 (m_ 0),p_ 1 35 (f_ 34 3),r_ 2 36 (.ld true 17 (.t 35)),c_ 3 37 22 [.t 36],c_ 4 38 21 [.t 34,.t 37],p_ 5 4 (m_ 38)]) .ret) (.seq (g_ 2 [p_ 0 40 (.bin 3 4 (.t 6) (i_ 4)),p_ 1 39 (m_ 40)]) (.cond (.t 39) (.seq (g_ 6 [p_ 0 41 (m_ 0),p_ 1 42 (f_ 51 3),r_ 2 43 (.ld true 5 (.t 42)),c_ 3 44 24 [.t 43],c_ 4 45 23 [.t 41,.t 44],p_ 5 4 (m_ 45)]) .ret) .skip)))))))))))) (.seq (g_ 1 [p_ 0 4 (.mv (.c (.bool false)))]) .ret))) [(0,[.up 4]),(1,[.up 4])])
theorem TI:bT Tryz.prog 7 TJ=true:=by kernel_rfl
structure AJ where
 f:bE
 a:ez
structure RO where
 f:bE
 q:Prop
def ji (p:AJ) (r:RO):Prop:=jY r.f∧bB r.f=nI p.a (bB p.f)∧∀k,bC p.f k→bC r.f (k+1)
noncomputable def HN (p:AJ):IE:=([.ptr 0 0,.agg (KV p.a)],(bj p.f),13)
noncomputable def Ik (p:AJ) (K:KE):Bool:=aA fun r:RO=>iP (ji p r) (K (.sy (.bool r.q)) (bj r.f) 13) true
def xI (p:AJ):Prop:=jY p.f∧bC p.f 79∧aaS p.a
theorem lx {p:AJ} {K:KE} (hK:Ik p K=true) (r:RO) (h:ji p r):K (.sy (.bool r.q)) (bj r.f) 13=true:=aP h (aF hK r)
theorem YW (p:AJ) (K:KE) (hpre:xI p) (hK:Ik p K=true):(bZ 1 (bH wW) dT 600 TJ (HN p).1 (HN p).2.1 (HN p).2.2 K)=true:=by
 refine Eq.trans (b:=(iP (p.a.kind=(0:Int)) (aI fun p1:ka=>mP (([.agg (ee p.a.b.id)],.leaf,0)=pt p1) (mP (((.int 1 p.a.b.g):SY)=(.int 1 p.a.b.g)) (mP (((.int 0 p.a.b.mode):SY)=(.int 0 p.a.b.mode)) (mP (((.int 0 p.a.b.at_):SY)=(.int 0 p.a.b.at_)) (mP (((.imm p.a.b.hp 5 aW p.a.b.ps encP):SY)=(.imm p.a.b.hp 5 aW p.a.b.ps encP)) (aX (([.sy (.imm p.a.b.hp 5 aW p.a.b.ps encP)],.leaf,0)) tV lS oB fun p2 r1=>mP (((.int 1 p.a.b.g):SY)=(.int 1 p.a.b.g)) (mP (((.int 0 p.a.b.mode):SY)=(.int 0 p.a.b.mode)) (mP (((.int 0 p.a.b.at_):SY)=(.int 0 p.a.b.at_)) (aX (([.ptr 0 0,.agg (KU ({p.a.b with id:=p1.d,hp:=r1.h,ps:=r1.o}:BgR))],(bj p.f),13)) yq rY oD fun p3 r2=>K (.sy (.bool r2.q)) (bj ({p3.f with mb:=r2.mb,b:=r2.b}:bE)) 13))))))))) (iP (p.a.kind=(1:Int)) (aI fun p4:ka=>mP (([.agg (ee p.a.e.id)],.leaf,0)=pt p4) (mP (((.int 1 p.a.e.g):SY)=(.int 1 p.a.e.g)) (mP (((.int 0 p.a.e.mode):SY)=(.int 0 p.a.e.mode)) (mP (((.int 0 p.a.e.begun):SY)=(.int 0 p.a.e.begun)) (mP (((.int 0 p.a.e.at_):SY)=(.int 0 p.a.e.at_)) (mP (((.int 0 p.a.e.code):SY)=(.int 0 p.a.e.code)) (ac (qL [qI 1 p.a.e.rc,qS p.a.e.rv]) (mP (((.int 1 p.a.e.g):SY)=(.int 1 p.a.e.g)) (mP (((.int 0 p.a.e.mode):SY)=(.int 0 p.a.e.mode)) (mP (((.int 0 p.a.e.begun):SY)=(.int 0 p.a.e.begun)) (mP (((.int 0 p.a.e.at_):SY)=(.int 0 p.a.e.at_)) (mP (((.int 0 p.a.e.code):SY)=(.int 0 p.a.e.code)) (aX (([.ptr 0 0,.agg (tG ({p.a.e with id:=p4.d}:EdR))],(bj p.f),13)) CM ui ng fun p5 r3=>K (.sy (.bool r3.q)) (bj ({p5.f with me:=r3.me,e:=r3.e}:bE)) 13))))))))))))) (iP (p.a.kind=(2:Int)) (iP (p.a.g=0) (aX (([.agg (br p.a.l)],.leaf,0)) qw fQ iw fun p14 r12=>mP (((.int 0 p.a.at_):SY)=(.int 0 p.a.at_)) (aX (([.ptr 0 0,.int 1 (.ofNat 0),.sy (.int 0 p.a.at_),.agg (br ({p14.e with hp:=r12.hp,ps:=r12.ps,hw:=r12.hw,ws:=r12.ws}:ai))],(bj p.f),13)) sP nP hP fun p15 r13=>K (.sy (.bool r13.q)) (bj ({p15.f with o0:=r13.o,sp:=r13.sp}:bE)) 13)) (iP (p.a.g=1) (aX (([.agg (br p.a.l)],.leaf,0)) qw fQ iw fun p12 r10=>mP (((.int 0 p.a.at_):SY)=(.int 0 p.a.at_)) (aX (([.ptr 0 0,.int 1 (.ofNat 1),.sy (.int 0 p.a.at_),.agg (br ({p12.e with hp:=r10.hp,ps:=r10.ps,hw:=r10.hw,ws:=r10.ws}:ai))],(bj p.f),13)) sO nO hO fun p13 r11=>K (.sy (.bool r11.q)) (bj ({p13.f with o1:=r11.o,sp:=r11.sp}:bE)) 13)) (iP (p.a.g=2) (aX (([.agg (br p.a.l)],.leaf,0)) qw fQ iw fun p10 r8=>mP (((.int 0 p.a.at_):SY)=(.int 0 p.a.at_)) (aX (([.ptr 0 0,.int 1 (.ofNat 2),.sy (.int 0 p.a.at_),.agg (br ({p10.e with hp:=r8.hp,ps:=r8.ps,hw:=r8.hw,ws:=r8.ws}:ai))],(bj p.f),13)) sN nN hC fun p11 r9=>K (.sy (.bool r9.q)) (bj ({p11.f with o2:=r9.o,sp:=r9.sp}:bE)) 13)) (iP (p.a.g=3) (aX (([.agg (br p.a.l)],.leaf,0)) qw fQ iw fun p8 r6=>mP (((.int 0 p.a.at_):SY)=(.int 0 p.a.at_)) (aX (([.ptr 0 0,.int 1 (.ofNat 3),.sy (.int 0 p.a.at_),.agg (br ({p8.e with hp:=r6.hp,ps:=r6.ps,hw:=r6.hw,ws:=r6.ws}:ai))],(bj p.f),13)) sM nM gZ fun p9 r7=>K (.sy (.bool r7.q)) (bj ({p9.f with o3:=r7.o,sp:=r7.sp}:bE)) 13)) (aX (([.agg (br p.a.l)],.leaf,0)) qw fQ iw fun p6 r4=>mP (((.int 1 p.a.g):SY)=(.int 1 p.a.g)) (mP (((.int 0 p.a.at_):SY)=(.int 0 p.a.at_)) (aI fun p7:py=>mP (([.ptr 0 0,.sy (.int 1 p.a.g),.sy (.int 0 p.a.at_),.agg (br ({p6.e with hp:=r4.hp,ps:=r4.ps,hw:=r4.hw,ws:=r4.ws}:ai))],(bj p.f),13)=sL p7) (mP (nL p7) (aA fun r5:ku=>K (.sy (.bool r5.q)) (bj p7.f) 13))))))))) (iP (p.a.kind=(3:Int)) (ac (qL [qI 1 p.a.t.id.client.node,qI 2 p.a.t.id.client.life,qI 3 p.a.t.id.seq,qI 1 p.a.t.id.depth,qI 1 p.a.t.id.p0.group,qI 1 p.a.t.id.p0.index,qI 1 p.a.t.id.p1.group,qI 1 p.a.t.id.p1.index,qI 1 p.a.t.id.p2.group,qI 1 p.a.t.id.p2.index]) (ac (qL [qI 1 p.a.t.rc,qS p.a.t.rv]) (ac (qL [qI 1 p.a.t.vg,qI 3 p.a.t.vn,qY ((.imm p.a.t.hm 2 Proc p.a.t.ms bJ))]) (aI fun p16:ka=>mP (([.agg (ee p.a.t.id)],.leaf,0)=pt p16) (ac (qL [qI 1 p.a.t.rc,qS p.a.t.rv]) (ac (qL [qI 1 p.a.t.vg,qI 3 p.a.t.vn,qY ((.imm p.a.t.hm 2 Proc p.a.t.ms bJ))]) (ac (qL [qI 1 p.a.t.vg,qI 3 p.a.t.vn,qY ((.imm p.a.t.hm 2 Proc p.a.t.ms bJ))]) (aX (([.sy (.imm p.a.t.hm 2 Proc p.a.t.ms bJ)],.leaf,0)) tU lR oA fun p17 r14=>mP (((.int 1 p.a.t.vg):SY)=(.int 1 p.a.t.vg)) (mP (((.int 3 p.a.t.vn):SY)=(.int 3 p.a.t.vn)) (aX (([.ptr 0 0,.agg (Ho ({p.a.t with id:=p16.d,hm:=r14.h,ms:=r14.o}:cL))],(bj p.f),13)) CF ub qJ fun p18 r15=>K (.sy (.bool r15.q)) (bj ({p18.f with mt:=r15.mt,t:=r15.t}:bE)) 13)))))))))) (iP (p.a.kind=(4:Int)) (ac (qL [qI 1 p.a.s.vg,qI 3 p.a.s.vn,qY ((.imm p.a.s.hm 2 Proc p.a.s.ms bJ))]) (aX (([.sy (.imm p.a.s.hm 2 Proc p.a.s.ms bJ)],.leaf,0)) tU lR oA fun p19 r16=>mP (((.int 1 p.a.s.vg):SY)=(.int 1 p.a.s.vg)) (mP (((.int 3 p.a.s.vn):SY)=(.int 3 p.a.s.vn)) (aX (([.ptr 0 0,.agg (Hp ({p.a.s with hm:=r16.h,ms:=r16.o}:cM))],(bj p.f),13)) HI xE uj fun p20 r17=>K (.sy (.bool r17.q)) (bj ({p20.f with ms:=r17.ms,s:=r17.s}:bE)) 13)))) (K (.sy (.bool (false=true))) (bj p.f) 13))))))) (by kernel_rfl) ?_
 dsimp only[xI]at hpre
 obtain⟨⟨i0,i1,i2,i3,i4,i5⟩,hl,⟨a1,a2,a3,a4,a5,a6,a7⟩,c0,c1,c2,c3⟩:=hpre
 have hl1:=hl
 unfold bC at hl1
 refine iI (fun hc1=> ?_) (fun hc1=> ?_)
 refine aG (⟨p.a.b.id⟩:ka) ?_
 refine az (az (az (az (az ?_))))
 refine aJ (⟨p.a.b.hp,p.a.b.ps⟩:pw) rfl (by(try dsimp only[lS]);exact a1.1) fun r1 hi2=> ?_
 dsimp only[oB]at hi2
 refine az (az (az ?_))
 refine aJ (⟨p.f,({p.a.b with id:=p.a.b.id,hp:=r1.h,ps:=r1.o}:BgR)⟩:rp) rfl (by(try dsimp only[rY]);have eo:=(by assumption:_=p.a.b.ps);exact⟨i0,⟨a5,by simp only[eo];exact a1.1⟩,by omega⟩) fun r2 hi3=> ?_
 dsimp only[oD]at hi3
 exact lx hK ⟨({p.f with mb:=r2.mb,b:=r2.b}:bE),r2.q⟩ (by dsimp only[ji]<;>(first|(exact⟨⟨(by assumption:_∧fh _ _∧_).2.1,i1,i2,i3,i4,i5⟩,gI (x:=bB p.f) (by assumption) (by assumption:_∧fh _ _∧_).1,fun k h=>by unfold bC at h ⊢;(try simp only at*);omega⟩)|(exact⟨⟨i0,(by assumption:_∧eS _ _∧_).2.1,i2,i3,i4,i5⟩,gH (x:=bB p.f) (by assumption) (by assumption:_∧eS _ _∧_).1,fun k h=>by unfold bC at h ⊢;(try simp only at*);omega⟩)|(have hz:=hi3;obtain⟨eo,_⟩:=(by assumption:_=p.a.l.ps∧_=p.a.l.ws);(exact⟨⟨i0,i1,hz.1.2.1,i3,i4,i5⟩,eY (x:=bB p.f) (by assumption) (by assumption) (by simp only[aq,eo]) hz.1.1,fun k h=>by unfold bC at h ⊢;(try simp only at*);omega⟩))|(have hz:=hi3;obtain⟨eo,_⟩:=(by assumption:_=p.a.l.ps∧_=p.a.l.ws);(exact⟨⟨i0,i1,i2,hz.1.2.1,i4,i5⟩,eX (x:=bB p.f) (by assumption) (by assumption) (by simp only[aq,eo]) hz.1.1,fun k h=>by unfold bC at h ⊢;(try simp only at*);omega⟩))|(have hz:=hi3;obtain⟨eo,_⟩:=(by assumption:_=p.a.l.ps∧_=p.a.l.ws);(exact⟨⟨i0,i1,i2,i3,hz.1.2.1,i5⟩,eW (x:=bB p.f) (by assumption) (by assumption) (by simp only[aq,eo]) hz.1.1,fun k h=>by unfold bC at h ⊢;(try simp only at*);omega⟩))|(have hz:=hi3;obtain⟨eo,_⟩:=(by assumption:_=p.a.l.ps∧_=p.a.l.ws);(exact⟨⟨i0,i1,i2,i3,i4,hz.1.2.1⟩,eV (x:=bB p.f) (by assumption) (by assumption) (by simp only[aq,eo]) hz.1.1,fun k h=>by unfold bC at h ⊢;(try simp only at*);omega⟩))|(exact⟨⟨i0,i1,i2,i3,i4,i5⟩,gG (x:=bB p.f) (by assumption) (by omega),fun k h=>by unfold bC at h ⊢;(try simp only at*);omega⟩)|(exact⟨⟨i0,i1,i2,i3,i4,i5⟩,eZ (x:=bB p.f) (by omega) (by omega) (by omega),fun k h=>by unfold bC at h ⊢;(try simp only at*);omega⟩)))
 refine iI (fun hc4=> ?_) (fun hc4=> ?_)
 refine aG (⟨p.a.e.id⟩:ka) ?_
 refine az (az (az (az (az (az ?_)))))
 refine aM (by simp[qL,qI,qS,qY,au]) ?_
 refine az (az (az (az (az ?_))))
 refine aJ (⟨p.f,({p.a.e with id:=p.a.e.id}:EdR)⟩:vx) rfl (by(try dsimp only[ui]);exact⟨i0,i1,⟨a6,c0⟩,by omega⟩) fun r3 hi5=> ?_
 dsimp only[ng]at hi5
 exact lx hK ⟨({p.f with me:=r3.me,e:=r3.e}:bE),r3.q⟩ (by dsimp only[ji]<;>(first|(exact⟨⟨(by assumption:_∧fh _ _∧_).2.1,i1,i2,i3,i4,i5⟩,gI (x:=bB p.f) (by assumption) (by assumption:_∧fh _ _∧_).1,fun k h=>by unfold bC at h ⊢;(try simp only at*);omega⟩)|(exact⟨⟨i0,(by assumption:_∧eS _ _∧_).2.1,i2,i3,i4,i5⟩,gH (x:=bB p.f) (by assumption) (by assumption:_∧eS _ _∧_).1,fun k h=>by unfold bC at h ⊢;(try simp only at*);omega⟩)|(have hz:=hi5;obtain⟨eo,_⟩:=(by assumption:_=p.a.l.ps∧_=p.a.l.ws);(exact⟨⟨i0,i1,hz.1.2.1,i3,i4,i5⟩,eY (x:=bB p.f) (by assumption) (by assumption) (by simp only[aq,eo]) hz.1.1,fun k h=>by unfold bC at h ⊢;(try simp only at*);omega⟩))|(have hz:=hi5;obtain⟨eo,_⟩:=(by assumption:_=p.a.l.ps∧_=p.a.l.ws);(exact⟨⟨i0,i1,i2,hz.1.2.1,i4,i5⟩,eX (x:=bB p.f) (by assumption) (by assumption) (by simp only[aq,eo]) hz.1.1,fun k h=>by unfold bC at h ⊢;(try simp only at*);omega⟩))|(have hz:=hi5;obtain⟨eo,_⟩:=(by assumption:_=p.a.l.ps∧_=p.a.l.ws);(exact⟨⟨i0,i1,i2,i3,hz.1.2.1,i5⟩,eW (x:=bB p.f) (by assumption) (by assumption) (by simp only[aq,eo]) hz.1.1,fun k h=>by unfold bC at h ⊢;(try simp only at*);omega⟩))|(have hz:=hi5;obtain⟨eo,_⟩:=(by assumption:_=p.a.l.ps∧_=p.a.l.ws);(exact⟨⟨i0,i1,i2,i3,i4,hz.1.2.1⟩,eV (x:=bB p.f) (by assumption) (by assumption) (by simp only[aq,eo]) hz.1.1,fun k h=>by unfold bC at h ⊢;(try simp only at*);omega⟩))|(exact⟨⟨i0,i1,i2,i3,i4,i5⟩,gG (x:=bB p.f) (by assumption) (by omega),fun k h=>by unfold bC at h ⊢;(try simp only at*);omega⟩)|(exact⟨⟨i0,i1,i2,i3,i4,i5⟩,eZ (x:=bB p.f) (by omega) (by omega) (by omega),fun k h=>by unfold bC at h ⊢;(try simp only at*);omega⟩)))
 refine iI (fun hc6=> ?_) (fun hc6=> ?_)
 refine iI (fun hc7=> ?_) (fun hc7=> ?_)
 refine aJ (⟨p.a.l⟩:mO) rfl (by(try dsimp only[fQ]);exact c3) fun r12 hi8=> ?_
 dsimp only[iw]at hi8
 refine az ?_
 refine aJ (⟨p.f,p.a.at_,({p.a.l with hp:=r12.hp,ps:=r12.ps,hw:=r12.hw,ws:=r12.ws}:ai)⟩:mX) rfl (by(try dsimp only[nP]);obtain⟨eo,ew⟩:=(by assumption:_=p.a.l.ps∧_=p.a.l.ws);exact⟨i2,⟨by unfold fg;simp only;rw[eo];exact a7,by unfold dU;simp only;rw[eo,ew];exact c3⟩,by omega,by omega,by omega⟩) fun r13 hi9=> ?_
 dsimp only[hP]at hi9
 exact lx hK ⟨({p.f with o0:=r13.o,sp:=r13.sp}:bE),r13.q⟩ (by dsimp only[ji]<;>(first|(exact⟨⟨(by assumption:_∧fh _ _∧_).2.1,i1,i2,i3,i4,i5⟩,gI (x:=bB p.f) (by assumption) (by assumption:_∧fh _ _∧_).1,fun k h=>by unfold bC at h ⊢;(try simp only at*);omega⟩)|(exact⟨⟨i0,(by assumption:_∧eS _ _∧_).2.1,i2,i3,i4,i5⟩,gH (x:=bB p.f) (by assumption) (by assumption:_∧eS _ _∧_).1,fun k h=>by unfold bC at h ⊢;(try simp only at*);omega⟩)|(have hz:=hi9;obtain⟨eo,_⟩:=(by assumption:_=p.a.l.ps∧_=p.a.l.ws);(exact⟨⟨i0,i1,hz.1.2.1,i3,i4,i5⟩,eY (x:=bB p.f) (by assumption) (by assumption) (by simp only[aq,eo]) hz.1.1,fun k h=>by unfold bC at h ⊢;(try simp only at*);omega⟩))|(have hz:=hi9;obtain⟨eo,_⟩:=(by assumption:_=p.a.l.ps∧_=p.a.l.ws);(exact⟨⟨i0,i1,i2,hz.1.2.1,i4,i5⟩,eX (x:=bB p.f) (by assumption) (by assumption) (by simp only[aq,eo]) hz.1.1,fun k h=>by unfold bC at h ⊢;(try simp only at*);omega⟩))|(have hz:=hi9;obtain⟨eo,_⟩:=(by assumption:_=p.a.l.ps∧_=p.a.l.ws);(exact⟨⟨i0,i1,i2,i3,hz.1.2.1,i5⟩,eW (x:=bB p.f) (by assumption) (by assumption) (by simp only[aq,eo]) hz.1.1,fun k h=>by unfold bC at h ⊢;(try simp only at*);omega⟩))|(have hz:=hi9;obtain⟨eo,_⟩:=(by assumption:_=p.a.l.ps∧_=p.a.l.ws);(exact⟨⟨i0,i1,i2,i3,i4,hz.1.2.1⟩,eV (x:=bB p.f) (by assumption) (by assumption) (by simp only[aq,eo]) hz.1.1,fun k h=>by unfold bC at h ⊢;(try simp only at*);omega⟩))|(exact⟨⟨i0,i1,i2,i3,i4,i5⟩,gG (x:=bB p.f) (by assumption) (by omega),fun k h=>by unfold bC at h ⊢;(try simp only at*);omega⟩)|(exact⟨⟨i0,i1,i2,i3,i4,i5⟩,eZ (x:=bB p.f) (by omega) (by omega) (by omega),fun k h=>by unfold bC at h ⊢;(try simp only at*);omega⟩)))
 refine iI (fun hc10=> ?_) (fun hc10=> ?_)
 refine aJ (⟨p.a.l⟩:mO) rfl (by(try dsimp only[fQ]);exact c3) fun r10 hi11=> ?_
 dsimp only[iw]at hi11
 refine az ?_
 refine aJ (⟨p.f,p.a.at_,({p.a.l with hp:=r10.hp,ps:=r10.ps,hw:=r10.hw,ws:=r10.ws}:ai)⟩:mW) rfl (by(try dsimp only[nO]);obtain⟨eo,ew⟩:=(by assumption:_=p.a.l.ps∧_=p.a.l.ws);exact⟨i3,⟨by unfold fg;simp only;rw[eo];exact a7,by unfold dU;simp only;rw[eo,ew];exact c3⟩,by omega,by omega,by omega⟩) fun r11 hi12=> ?_
 dsimp only[hO]at hi12
 exact lx hK ⟨({p.f with o1:=r11.o,sp:=r11.sp}:bE),r11.q⟩ (by dsimp only[ji]<;>(first|(exact⟨⟨(by assumption:_∧fh _ _∧_).2.1,i1,i2,i3,i4,i5⟩,gI (x:=bB p.f) (by assumption) (by assumption:_∧fh _ _∧_).1,fun k h=>by unfold bC at h ⊢;(try simp only at*);omega⟩)|(exact⟨⟨i0,(by assumption:_∧eS _ _∧_).2.1,i2,i3,i4,i5⟩,gH (x:=bB p.f) (by assumption) (by assumption:_∧eS _ _∧_).1,fun k h=>by unfold bC at h ⊢;(try simp only at*);omega⟩)|(have hz:=hi12;obtain⟨eo,_⟩:=(by assumption:_=p.a.l.ps∧_=p.a.l.ws);(exact⟨⟨i0,i1,hz.1.2.1,i3,i4,i5⟩,eY (x:=bB p.f) (by assumption) (by assumption) (by simp only[aq,eo]) hz.1.1,fun k h=>by unfold bC at h ⊢;(try simp only at*);omega⟩))|(have hz:=hi12;obtain⟨eo,_⟩:=(by assumption:_=p.a.l.ps∧_=p.a.l.ws);(exact⟨⟨i0,i1,i2,hz.1.2.1,i4,i5⟩,eX (x:=bB p.f) (by assumption) (by assumption) (by simp only[aq,eo]) hz.1.1,fun k h=>by unfold bC at h ⊢;(try simp only at*);omega⟩))|(have hz:=hi12;obtain⟨eo,_⟩:=(by assumption:_=p.a.l.ps∧_=p.a.l.ws);(exact⟨⟨i0,i1,i2,i3,hz.1.2.1,i5⟩,eW (x:=bB p.f) (by assumption) (by assumption) (by simp only[aq,eo]) hz.1.1,fun k h=>by unfold bC at h ⊢;(try simp only at*);omega⟩))|(have hz:=hi12;obtain⟨eo,_⟩:=(by assumption:_=p.a.l.ps∧_=p.a.l.ws);(exact⟨⟨i0,i1,i2,i3,i4,hz.1.2.1⟩,eV (x:=bB p.f) (by assumption) (by assumption) (by simp only[aq,eo]) hz.1.1,fun k h=>by unfold bC at h ⊢;(try simp only at*);omega⟩))|(exact⟨⟨i0,i1,i2,i3,i4,i5⟩,gG (x:=bB p.f) (by assumption) (by omega),fun k h=>by unfold bC at h ⊢;(try simp only at*);omega⟩)|(exact⟨⟨i0,i1,i2,i3,i4,i5⟩,eZ (x:=bB p.f) (by omega) (by omega) (by omega),fun k h=>by unfold bC at h ⊢;(try simp only at*);omega⟩)))
 refine iI (fun hc13=> ?_) (fun hc13=> ?_)
 refine aJ (⟨p.a.l⟩:mO) rfl (by(try dsimp only[fQ]);exact c3) fun r8 hi14=> ?_
 dsimp only[iw]at hi14
 refine az ?_
 refine aJ (⟨p.f,p.a.at_,({p.a.l with hp:=r8.hp,ps:=r8.ps,hw:=r8.hw,ws:=r8.ws}:ai)⟩:mV) rfl (by(try dsimp only[nN]);obtain⟨eo,ew⟩:=(by assumption:_=p.a.l.ps∧_=p.a.l.ws);exact⟨i4,⟨by unfold fg;simp only;rw[eo];exact a7,by unfold dU;simp only;rw[eo,ew];exact c3⟩,by omega,by omega,by omega⟩) fun r9 hi15=> ?_
 dsimp only[hC]at hi15
 exact lx hK ⟨({p.f with o2:=r9.o,sp:=r9.sp}:bE),r9.q⟩ (by dsimp only[ji]<;>(first|(exact⟨⟨(by assumption:_∧fh _ _∧_).2.1,i1,i2,i3,i4,i5⟩,gI (x:=bB p.f) (by assumption) (by assumption:_∧fh _ _∧_).1,fun k h=>by unfold bC at h ⊢;(try simp only at*);omega⟩)|(exact⟨⟨i0,(by assumption:_∧eS _ _∧_).2.1,i2,i3,i4,i5⟩,gH (x:=bB p.f) (by assumption) (by assumption:_∧eS _ _∧_).1,fun k h=>by unfold bC at h ⊢;(try simp only at*);omega⟩)|(have hz:=hi15;obtain⟨eo,_⟩:=(by assumption:_=p.a.l.ps∧_=p.a.l.ws);(exact⟨⟨i0,i1,hz.1.2.1,i3,i4,i5⟩,eY (x:=bB p.f) (by assumption) (by assumption) (by simp only[aq,eo]) hz.1.1,fun k h=>by unfold bC at h ⊢;(try simp only at*);omega⟩))|(have hz:=hi15;obtain⟨eo,_⟩:=(by assumption:_=p.a.l.ps∧_=p.a.l.ws);(exact⟨⟨i0,i1,i2,hz.1.2.1,i4,i5⟩,eX (x:=bB p.f) (by assumption) (by assumption) (by simp only[aq,eo]) hz.1.1,fun k h=>by unfold bC at h ⊢;(try simp only at*);omega⟩))|(have hz:=hi15;obtain⟨eo,_⟩:=(by assumption:_=p.a.l.ps∧_=p.a.l.ws);(exact⟨⟨i0,i1,i2,i3,hz.1.2.1,i5⟩,eW (x:=bB p.f) (by assumption) (by assumption) (by simp only[aq,eo]) hz.1.1,fun k h=>by unfold bC at h ⊢;(try simp only at*);omega⟩))|(have hz:=hi15;obtain⟨eo,_⟩:=(by assumption:_=p.a.l.ps∧_=p.a.l.ws);(exact⟨⟨i0,i1,i2,i3,i4,hz.1.2.1⟩,eV (x:=bB p.f) (by assumption) (by assumption) (by simp only[aq,eo]) hz.1.1,fun k h=>by unfold bC at h ⊢;(try simp only at*);omega⟩))|(exact⟨⟨i0,i1,i2,i3,i4,i5⟩,gG (x:=bB p.f) (by assumption) (by omega),fun k h=>by unfold bC at h ⊢;(try simp only at*);omega⟩)|(exact⟨⟨i0,i1,i2,i3,i4,i5⟩,eZ (x:=bB p.f) (by omega) (by omega) (by omega),fun k h=>by unfold bC at h ⊢;(try simp only at*);omega⟩)))
 refine iI (fun hc16=> ?_) (fun hc16=> ?_)
 refine aJ (⟨p.a.l⟩:mO) rfl (by(try dsimp only[fQ]);exact c3) fun r6 hi17=> ?_
 dsimp only[iw]at hi17
 refine az ?_
 refine aJ (⟨p.f,p.a.at_,({p.a.l with hp:=r6.hp,ps:=r6.ps,hw:=r6.hw,ws:=r6.ws}:ai)⟩:mU) rfl (by(try dsimp only[nM]);obtain⟨eo,ew⟩:=(by assumption:_=p.a.l.ps∧_=p.a.l.ws);exact⟨i5,⟨by unfold fg;simp only;rw[eo];exact a7,by unfold dU;simp only;rw[eo,ew];exact c3⟩,by omega,by omega,by omega⟩) fun r7 hi18=> ?_
 dsimp only[gZ]at hi18
 exact lx hK ⟨({p.f with o3:=r7.o,sp:=r7.sp}:bE),r7.q⟩ (by dsimp only[ji]<;>(first|(exact⟨⟨(by assumption:_∧fh _ _∧_).2.1,i1,i2,i3,i4,i5⟩,gI (x:=bB p.f) (by assumption) (by assumption:_∧fh _ _∧_).1,fun k h=>by unfold bC at h ⊢;(try simp only at*);omega⟩)|(exact⟨⟨i0,(by assumption:_∧eS _ _∧_).2.1,i2,i3,i4,i5⟩,gH (x:=bB p.f) (by assumption) (by assumption:_∧eS _ _∧_).1,fun k h=>by unfold bC at h ⊢;(try simp only at*);omega⟩)|(have hz:=hi18;obtain⟨eo,_⟩:=(by assumption:_=p.a.l.ps∧_=p.a.l.ws);(exact⟨⟨i0,i1,hz.1.2.1,i3,i4,i5⟩,eY (x:=bB p.f) (by assumption) (by assumption) (by simp only[aq,eo]) hz.1.1,fun k h=>by unfold bC at h ⊢;(try simp only at*);omega⟩))|(have hz:=hi18;obtain⟨eo,_⟩:=(by assumption:_=p.a.l.ps∧_=p.a.l.ws);(exact⟨⟨i0,i1,i2,hz.1.2.1,i4,i5⟩,eX (x:=bB p.f) (by assumption) (by assumption) (by simp only[aq,eo]) hz.1.1,fun k h=>by unfold bC at h ⊢;(try simp only at*);omega⟩))|(have hz:=hi18;obtain⟨eo,_⟩:=(by assumption:_=p.a.l.ps∧_=p.a.l.ws);(exact⟨⟨i0,i1,i2,i3,hz.1.2.1,i5⟩,eW (x:=bB p.f) (by assumption) (by assumption) (by simp only[aq,eo]) hz.1.1,fun k h=>by unfold bC at h ⊢;(try simp only at*);omega⟩))|(have hz:=hi18;obtain⟨eo,_⟩:=(by assumption:_=p.a.l.ps∧_=p.a.l.ws);(exact⟨⟨i0,i1,i2,i3,i4,hz.1.2.1⟩,eV (x:=bB p.f) (by assumption) (by assumption) (by simp only[aq,eo]) hz.1.1,fun k h=>by unfold bC at h ⊢;(try simp only at*);omega⟩))|(exact⟨⟨i0,i1,i2,i3,i4,i5⟩,gG (x:=bB p.f) (by assumption) (by omega),fun k h=>by unfold bC at h ⊢;(try simp only at*);omega⟩)|(exact⟨⟨i0,i1,i2,i3,i4,i5⟩,eZ (x:=bB p.f) (by omega) (by omega) (by omega),fun k h=>by unfold bC at h ⊢;(try simp only at*);omega⟩)))
 refine aJ (⟨p.a.l⟩:mO) rfl (by(try dsimp only[fQ]);exact c3) fun r4 hi19=> ?_
 dsimp only[iw]at hi19
 refine az (az ?_)
 refine dG (⟨p.f,p.a.g,p.a.at_,({p.a.l with hp:=r4.hp,ps:=r4.ps,hw:=r4.hw,ws:=r4.ws}:ai)⟩:py) rfl (by(try dsimp only[nL]);omega) ?_
 refine aB (fun r5=> ?_)
 exact lx hK ⟨p.f,r5.q⟩ (by dsimp only[ji]<;>(first|(exact⟨⟨(by assumption:_∧fh _ _∧_).2.1,i1,i2,i3,i4,i5⟩,gI (x:=bB p.f) (by assumption) (by assumption:_∧fh _ _∧_).1,fun k h=>by unfold bC at h ⊢;(try simp only at*);omega⟩)|(exact⟨⟨i0,(by assumption:_∧eS _ _∧_).2.1,i2,i3,i4,i5⟩,gH (x:=bB p.f) (by assumption) (by assumption:_∧eS _ _∧_).1,fun k h=>by unfold bC at h ⊢;(try simp only at*);omega⟩)|(have hz:=hi19;obtain⟨eo,_⟩:=(by assumption:_=p.a.l.ps∧_=p.a.l.ws);(exact⟨⟨i0,i1,hz.1.2.1,i3,i4,i5⟩,eY (x:=bB p.f) (by assumption) (by assumption) (by simp only[aq,eo]) hz.1.1,fun k h=>by unfold bC at h ⊢;(try simp only at*);omega⟩))|(have hz:=hi19;obtain⟨eo,_⟩:=(by assumption:_=p.a.l.ps∧_=p.a.l.ws);(exact⟨⟨i0,i1,i2,hz.1.2.1,i4,i5⟩,eX (x:=bB p.f) (by assumption) (by assumption) (by simp only[aq,eo]) hz.1.1,fun k h=>by unfold bC at h ⊢;(try simp only at*);omega⟩))|(have hz:=hi19;obtain⟨eo,_⟩:=(by assumption:_=p.a.l.ps∧_=p.a.l.ws);(exact⟨⟨i0,i1,i2,i3,hz.1.2.1,i5⟩,eW (x:=bB p.f) (by assumption) (by assumption) (by simp only[aq,eo]) hz.1.1,fun k h=>by unfold bC at h ⊢;(try simp only at*);omega⟩))|(have hz:=hi19;obtain⟨eo,_⟩:=(by assumption:_=p.a.l.ps∧_=p.a.l.ws);(exact⟨⟨i0,i1,i2,i3,i4,hz.1.2.1⟩,eV (x:=bB p.f) (by assumption) (by assumption) (by simp only[aq,eo]) hz.1.1,fun k h=>by unfold bC at h ⊢;(try simp only at*);omega⟩))|(exact⟨⟨i0,i1,i2,i3,i4,i5⟩,gG (x:=bB p.f) (by assumption) (by omega),fun k h=>by unfold bC at h ⊢;(try simp only at*);omega⟩)|(exact⟨⟨i0,i1,i2,i3,i4,i5⟩,eZ (x:=bB p.f) (by omega) (by omega) (by omega),fun k h=>by unfold bC at h ⊢;(try simp only at*);omega⟩)))
 refine iI (fun hc20=> ?_) (fun hc20=> ?_)
 refine aM (by simp[qL,qI,qS,qY,au]) ?_
 refine aM (by simp[qL,qI,qS,qY,au]) ?_
 refine aM (by simp[qL,qI,qS,qY,au]) ?_
 refine aG (⟨p.a.t.id⟩:ka) ?_
 refine az ?_
 refine aM (by simp[qL,qI,qS,qY,au]) ?_
 refine aM (by simp[qL,qI,qS,qY,au]) ?_
 refine aM (by simp[qL,qI,qS,qY,au]) ?_
 refine aJ (⟨p.a.t.hm,p.a.t.ms⟩:pv) rfl (by(try dsimp only[lR]);first|exact c1|exact c2) fun r14 hi21=> ?_
 dsimp only[oA]at hi21
 refine az (az ?_)
 refine aJ (⟨p.f,({p.a.t with id:=p.a.t.id,hm:=r14.h,ms:=r14.o}:cL)⟩:vq) rfl (by(try dsimp only[ub]);have eo:=(by assumption:_=p.a.t.ms);exact⟨by simp only[eo];exact c1,by omega⟩) fun r15 hi22=> ?_
 dsimp only[qJ]at hi22
 exact lx hK ⟨({p.f with mt:=r15.mt,t:=r15.t}:bE),r15.q⟩ (by dsimp only[ji]<;>(first|(exact⟨⟨(by assumption:_∧fh _ _∧_).2.1,i1,i2,i3,i4,i5⟩,gI (x:=bB p.f) (by assumption) (by assumption:_∧fh _ _∧_).1,fun k h=>by unfold bC at h ⊢;(try simp only at*);omega⟩)|(exact⟨⟨i0,(by assumption:_∧eS _ _∧_).2.1,i2,i3,i4,i5⟩,gH (x:=bB p.f) (by assumption) (by assumption:_∧eS _ _∧_).1,fun k h=>by unfold bC at h ⊢;(try simp only at*);omega⟩)|(have hz:=hi22;obtain⟨eo,_⟩:=(by assumption:_=p.a.l.ps∧_=p.a.l.ws);(exact⟨⟨i0,i1,hz.1.2.1,i3,i4,i5⟩,eY (x:=bB p.f) (by assumption) (by assumption) (by simp only[aq,eo]) hz.1.1,fun k h=>by unfold bC at h ⊢;(try simp only at*);omega⟩))|(have hz:=hi22;obtain⟨eo,_⟩:=(by assumption:_=p.a.l.ps∧_=p.a.l.ws);(exact⟨⟨i0,i1,i2,hz.1.2.1,i4,i5⟩,eX (x:=bB p.f) (by assumption) (by assumption) (by simp only[aq,eo]) hz.1.1,fun k h=>by unfold bC at h ⊢;(try simp only at*);omega⟩))|(have hz:=hi22;obtain⟨eo,_⟩:=(by assumption:_=p.a.l.ps∧_=p.a.l.ws);(exact⟨⟨i0,i1,i2,i3,hz.1.2.1,i5⟩,eW (x:=bB p.f) (by assumption) (by assumption) (by simp only[aq,eo]) hz.1.1,fun k h=>by unfold bC at h ⊢;(try simp only at*);omega⟩))|(have hz:=hi22;obtain⟨eo,_⟩:=(by assumption:_=p.a.l.ps∧_=p.a.l.ws);(exact⟨⟨i0,i1,i2,i3,i4,hz.1.2.1⟩,eV (x:=bB p.f) (by assumption) (by assumption) (by simp only[aq,eo]) hz.1.1,fun k h=>by unfold bC at h ⊢;(try simp only at*);omega⟩))|(exact⟨⟨i0,i1,i2,i3,i4,i5⟩,gG (x:=bB p.f) (by assumption) (by omega),fun k h=>by unfold bC at h ⊢;(try simp only at*);omega⟩)|(exact⟨⟨i0,i1,i2,i3,i4,i5⟩,eZ (x:=bB p.f) (by omega) (by omega) (by omega),fun k h=>by unfold bC at h ⊢;(try simp only at*);omega⟩)))
 refine iI (fun hc23=> ?_) (fun hc23=> ?_)
 refine aM (by simp[qL,qI,qS,qY,au]) ?_
 refine aJ (⟨p.a.s.hm,p.a.s.ms⟩:pv) rfl (by(try dsimp only[lR]);first|exact c1|exact c2) fun r16 hi24=> ?_
 dsimp only[oA]at hi24
 refine az (az ?_)
 refine aJ (⟨p.f,({p.a.s with hm:=r16.h,ms:=r16.o}:cM)⟩:AH) rfl (by(try dsimp only[xE]);have eo:=(by assumption:_=p.a.s.ms);exact⟨by simp only[eo];exact c2,by omega⟩) fun r17 hi25=> ?_
 dsimp only[uj]at hi25
 exact lx hK ⟨({p.f with ms:=r17.ms,s:=r17.s}:bE),r17.q⟩ (by dsimp only[ji]<;>(first|(exact⟨⟨(by assumption:_∧fh _ _∧_).2.1,i1,i2,i3,i4,i5⟩,gI (x:=bB p.f) (by assumption) (by assumption:_∧fh _ _∧_).1,fun k h=>by unfold bC at h ⊢;(try simp only at*);omega⟩)|(exact⟨⟨i0,(by assumption:_∧eS _ _∧_).2.1,i2,i3,i4,i5⟩,gH (x:=bB p.f) (by assumption) (by assumption:_∧eS _ _∧_).1,fun k h=>by unfold bC at h ⊢;(try simp only at*);omega⟩)|(have hz:=hi25;obtain⟨eo,_⟩:=(by assumption:_=p.a.l.ps∧_=p.a.l.ws);(exact⟨⟨i0,i1,hz.1.2.1,i3,i4,i5⟩,eY (x:=bB p.f) (by assumption) (by assumption) (by simp only[aq,eo]) hz.1.1,fun k h=>by unfold bC at h ⊢;(try simp only at*);omega⟩))|(have hz:=hi25;obtain⟨eo,_⟩:=(by assumption:_=p.a.l.ps∧_=p.a.l.ws);(exact⟨⟨i0,i1,i2,hz.1.2.1,i4,i5⟩,eX (x:=bB p.f) (by assumption) (by assumption) (by simp only[aq,eo]) hz.1.1,fun k h=>by unfold bC at h ⊢;(try simp only at*);omega⟩))|(have hz:=hi25;obtain⟨eo,_⟩:=(by assumption:_=p.a.l.ps∧_=p.a.l.ws);(exact⟨⟨i0,i1,i2,i3,hz.1.2.1,i5⟩,eW (x:=bB p.f) (by assumption) (by assumption) (by simp only[aq,eo]) hz.1.1,fun k h=>by unfold bC at h ⊢;(try simp only at*);omega⟩))|(have hz:=hi25;obtain⟨eo,_⟩:=(by assumption:_=p.a.l.ps∧_=p.a.l.ws);(exact⟨⟨i0,i1,i2,i3,i4,hz.1.2.1⟩,eV (x:=bB p.f) (by assumption) (by assumption) (by simp only[aq,eo]) hz.1.1,fun k h=>by unfold bC at h ⊢;(try simp only at*);omega⟩))|(exact⟨⟨i0,i1,i2,i3,i4,i5⟩,gG (x:=bB p.f) (by assumption) (by omega),fun k h=>by unfold bC at h ⊢;(try simp only at*);omega⟩)|(exact⟨⟨i0,i1,i2,i3,i4,i5⟩,eZ (x:=bB p.f) (by omega) (by omega) (by omega),fun k h=>by unfold bC at h ⊢;(try simp only at*);omega⟩)))
 exact lx hK ⟨p.f,false=true⟩ (by dsimp only[ji]<;>(first|(exact⟨⟨(by assumption:_∧fh _ _∧_).2.1,i1,i2,i3,i4,i5⟩,gI (x:=bB p.f) (by assumption) (by assumption:_∧fh _ _∧_).1,fun k h=>by unfold bC at h ⊢;(try simp only at*);omega⟩)|(exact⟨⟨i0,(by assumption:_∧eS _ _∧_).2.1,i2,i3,i4,i5⟩,gH (x:=bB p.f) (by assumption) (by assumption:_∧eS _ _∧_).1,fun k h=>by unfold bC at h ⊢;(try simp only at*);omega⟩)|(have hz:=hi0;obtain⟨eo,_⟩:=(by assumption:_=p.a.l.ps∧_=p.a.l.ws);(exact⟨⟨i0,i1,hz.1.2.1,i3,i4,i5⟩,eY (x:=bB p.f) (by assumption) (by assumption) (by simp only[aq,eo]) hz.1.1,fun k h=>by unfold bC at h ⊢;(try simp only at*);omega⟩))|(have hz:=hi0;obtain⟨eo,_⟩:=(by assumption:_=p.a.l.ps∧_=p.a.l.ws);(exact⟨⟨i0,i1,i2,hz.1.2.1,i4,i5⟩,eX (x:=bB p.f) (by assumption) (by assumption) (by simp only[aq,eo]) hz.1.1,fun k h=>by unfold bC at h ⊢;(try simp only at*);omega⟩))|(have hz:=hi0;obtain⟨eo,_⟩:=(by assumption:_=p.a.l.ps∧_=p.a.l.ws);(exact⟨⟨i0,i1,i2,i3,hz.1.2.1,i5⟩,eW (x:=bB p.f) (by assumption) (by assumption) (by simp only[aq,eo]) hz.1.1,fun k h=>by unfold bC at h ⊢;(try simp only at*);omega⟩))|(have hz:=hi0;obtain⟨eo,_⟩:=(by assumption:_=p.a.l.ps∧_=p.a.l.ws);(exact⟨⟨i0,i1,i2,i3,i4,hz.1.2.1⟩,eV (x:=bB p.f) (by assumption) (by assumption) (by simp only[aq,eo]) hz.1.1,fun k h=>by unfold bC at h ⊢;(try simp only at*);omega⟩))|(exact⟨⟨i0,i1,i2,i3,i4,i5⟩,gG (x:=bB p.f) (by assumption) (by omega),fun k h=>by unfold bC at h ⊢;(try simp only at*);omega⟩)|(exact⟨⟨i0,i1,i2,i3,i4,i5⟩,eZ (x:=bB p.f) (by omega) (by omega) (by omega),fun k h=>by unfold bC at h ⊢;(try simp only at*);omega⟩)))
noncomputable def Db:=bM wW 1 (ce HN (dD xI Ik)) 7 [(1,15)]
theorem zN:be Tryz.prog Db:=aY (cX (f:=7) (k:=1) (aT xN) TI (by rfl) (by rfl) YW) xN
end Go.Proofs.Tryz
