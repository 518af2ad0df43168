/- SeatCalm: a calm group of founders comes to have committed what was ordered. -/
import Derived.Test.YtjhpjjbnojbikaaGreatM5
import Derived.KernelRfl
import Derived.Test.YtjhpjjbnojbikaaGreatRows
import Derived.WalkKit
import Derived.ProofKit
import Derived.OpenShut
import Derived.Below
import Derived.LaidLaws
import Derived.RowKit
open List renaming length_drop→akG,length_take→aky,mem_of_getElem?→akp
open Option.some renaming inj→akE
namespace Go.Proofs.Tryz
open Go.Proofs.YtjhpjjbnojbikaaGreat (gw gN ii jj kU oS)
open Go Go.RowKit Go.Sy
open Go.Eng hiding ah
set_option maxRecDepth 1000000
set_option linter.unusedVariables false
set_option maxHeartbeats 4000000
def Sb:XF:=.mk 11 (.one 2) (.seq (g_ 2 [e_ 0 1 (.box 52 (.t 0)),p_ 1 2 (.mv (.c (.bool false)))]) (.seq (g_ 9 [p_ 0 3 (f_ 0 1),r_ 1 4 (l_ 3),p_ 2 5 (.bin 3 0 (.t 4) (.c (.int 1 (.ofNat 16)))),p_ 3 6 (m_ 5),am 4 7 6 true (f_ 1 1),aU 5 8 6 true (l_ 7),am 6 9 6 true (.bin 3 2 (.t 8) (.c (.int 2 (.ofNat 0)))),p_ 7 10 (.pick (.t 6) (.t 9) (.c (.bool false))),p_ 8 2 (m_ 10)]) .ret))
theorem OE:aW Tryz.prog 44 Sb=true:=by kernel_rfl
structure bB where
 w:Int
noncomputable def dc (p:bB):IE:=([.agg [.sy (.int 1 p.w),bj]],.leaf,0)
noncomputable def VK (p:bB) (K:KE):Bool:=K (.bool true) .leaf 0
def bh (p:bB):Prop:=0≤p.w∧p.w<16
theorem af4 (p:bB) (K:KE) (hpre:bh p) (hK:VK p K=true):(aY 0 (bg Da) bp 600 Sb (dc p).1 (dc p).2.1 (dc p).2.2 K)=true:=by
 refine Eq.trans (b:=(iP (p.w<(16:Int)) (K (.bool true) .leaf 0) (K (.bool false) .leaf 0))) (by kernel_rfl) ?_
 dsimp only[bh]at hpre
 obtain⟨u1,u2⟩:=hpre
 refine iI (fun hc1=> ?_) (fun hc1=> ?_)
 exact hK
 exfalso;omega
noncomputable def Tg:aM:=bn (fun us M=>Nat.beq (iS us 0 0) 999) (be dc (cm bh VK)) (fun _ _ _ _=>false)
theorem Zv:aX Tryz.prog 44 0 Tg:=aD (bi (f:=44) (k:=0) (ay CZ) OE (by rfl) (by rfl) af4) dT
noncomputable def LQ:=aZ Da 0 Tg 44 [(0,15)]
theorem Kk:aE Tryz.prog LQ:=az Zv CZ
def Wb:XF:=Sb
theorem XS:aW Tryz.prog 44 Wb=true:=OE
abbrev dq:=Unit
noncomputable def de (p:dq):IE:=([.agg bu],.leaf,0)
noncomputable def Qh (p:dq) (K:KE):Bool:=K (.bool true) .leaf 0
theorem adq (p:dq) (K:KE) (hK:Qh p K=true):(aY 0 (bg LQ) bp 600 Wb (de p).1 (de p).2.1 (de p).2.2 K)=true:=by
 refine Eq.trans (b:=(K (.bool true) .leaf 0)) (by kernel_rfl) ?_
 repeat' (first|exact hK|refine mI rfl ?_|refine aG ?_ ?_|exact rfl)
noncomputable def Ws:aM:=bn (fun us M=>Nat.beq (iS us 0 0) 0) (be de Qh) Tg
theorem aeP:aX Tryz.prog 44 0 Ws:=aD (ck (f:=44) (k:=0) (ay Kk) XS (by rfl) (by rfl) adq) Zv
noncomputable def HD:=aZ LQ 0 Ws 44 [(0,15)]
theorem Gv:aE Tryz.prog HD:=az aeP Kk
def lg:XF:=.mk 20 (.one 2) (.aft (.seq (g_ 1 [p_ 0 2 (.mv (.c .nilS))]) (.seq (.block 2 (.seq (g_ 3 [p_ 0 4 (m_ 0),c_ 1 5 32 [.t 4],p_ 2 3 (m_ 5)]) (.cond (.t 3) (.seq (g_ 1 [p_ 0 2 (.mv (.c .nilS))]) .ret) (.seq (g_ 3 [p_ 0 7 (m_ 0),c_ 1 8 19 [.t 7],p_ 2 6 (m_ 8)]) (.cond (.t 6) (.seq (g_ 7 [p_ 0 9 (m_ 0),p_ 1 10 (n_ 9),p_ 2 11 (f_ 0 10),p_ 3 12 (f_ 3 11),r_ 4 13 (l_ 12),c_ 5 14 34 [.t 13],p_ 6 2 (m_ 14)]) .ret) .skip))))) (.seq (g_ 6 [p_ 0 15 (m_ 0),p_ 1 16 (n_ 15),p_ 2 17 (f_ 18 16),r_ 3 18 (l_ 17),c_ 4 19 35 [.t 18],p_ 5 2 (m_ 19)]) .ret))) [(0,[.frz 2]),(1,[.frz 2])])
theorem il:aW Tryz.prog 13 lg=true:=by kernel_rfl
structure oN where
 l:List Ke
 com:Int
 c0:Int
structure Nh where
 h:Value
 o:List Ke
def nu (p:oN) (r:Nh):Prop:=r.o=p.l∧r.o.length=p.l.length
noncomputable def tZ (p:oN):IE:=([.ptr 0 0],(dI p.l p.com p.c0),10)
noncomputable def Cx (p:oN) (K:KE):Bool:=ah fun r:Nh=>iP (nu p r) (K (.sy (.imm r.h 18 Ke r.o ai)) (dI p.l p.com p.c0) 10) true
def kG (p:oN):Prop:=p.l.length≤400
theorem aab {p:oN} {K:KE} (hK:Cx p K=true) (r:Nh) (h:nu p r):K (.sy (.imm r.h 18 Ke r.o ai)) (dI p.l p.com p.c0) 10=true:=aA h (au hK r)
theorem aa7 (p:oN) (K:KE) (hpre:kG p) (hK:Cx p K=true):(aY 1 (bg HD) bp 600 lg (tZ p).1 (tZ p).2.1 (tZ p).2.2 K)=true:=by
 refine Eq.trans (b:=(ax fun p1:dq=>mP (([.agg bu],.leaf,0)=de p1) (ax fun p2:dq=>mP (([.agg bu],.leaf,0)=de p2) (bf (([.sy (.prow 0 p.l.length)],(.node .leaf (some (.prow 68 18 Ke p.l ai)) .leaf),1)) dC bM bY fun p3 r1=>mP (r1.o.length=r1.o.length) (mP (r1.o.length=r1.o.length) (ah fun h1:Value=>K (.sy (.imm h1 18 Ke r1.o ai)) (Sh1 p3.l p.com p.c0 p.l.length) 10)))))) (by kernel_rfl) ?_
 dsimp only[kG]at hpre
 have u1:=hpre
 refine aH ⟨⟩ ?_
 refine aK ?_
 refine aH ⟨⟩ ?_
 refine aK ?_
 refine aB (⟨p.l⟩:cY) rfl (by(try dsimp only[bM]);first|omega|(simp only[aky,akG];omega)) fun r1 hi1=> ?_
 dsimp only[bY]at hi1
 refine aK (aK ?_)
 refine aj (fun h1=> ?_)
 exact aab hK ⟨h1,r1.o⟩ (by dsimp only[nu]<;>assumption)
noncomputable def IH:aM:=bn (fun us M=>bC (Nat.beq (ca M 1) 1) (cD M 0 8)) (be tZ (cm kG Cx)) (fun _ _ _ _=>false)
theorem QV:aX Tryz.prog 13 1 IH:=aD (bi (f:=13) (k:=1) (ay Gv) il (by rfl) (by rfl) aa7) dT
noncomputable def Du:=aZ HD 1 IH 13 [(0,4)]
theorem Dt:aE Tryz.prog Du:=az QV Gv
def Sq:XF:=lg
theorem Vh:aW Tryz.prog 13 Sq=true:=il
structure oM where
 l:List Ke
 com:Int
 c0:Int
 c1:Int
structure Nf where
 h:Value
 o:List Ke
def nt (p:oM) (r:Nf):Prop:=r.o=p.l∧r.o.length=p.l.length
noncomputable def tY (p:oM):IE:=([.ptr 0 0],(dB p.l p.com p.c0 p.c1),10)
noncomputable def Cv (p:oM) (K:KE):Bool:=ah fun r:Nf=>iP (nt p r) (K (.sy (.imm r.h 18 Ke r.o ai)) (dB p.l p.com p.c0 p.c1) 10) true
def kF (p:oM):Prop:=p.l.length≤400
theorem ZZ {p:oM} {K:KE} (hK:Cv p K=true) (r:Nf) (h:nt p r):K (.sy (.imm r.h 18 Ke r.o ai)) (dB p.l p.com p.c0 p.c1) 10=true:=aA h (au hK r)
theorem aa5 (p:oM) (K:KE) (hpre:kF p) (hK:Cv p K=true):(aY 1 (bg Du) bp 600 Sq (tY p).1 (tY p).2.1 (tY p).2.2 K)=true:=by
 refine Eq.trans (b:=(ax fun p1:dq=>mP (([.agg bu],.leaf,0)=de p1) (ax fun p2:dq=>mP (([.agg bu],.leaf,0)=de p2) (bf (([.sy (.prow 0 p.l.length)],(.node .leaf (some (.prow 68 18 Ke p.l ai)) .leaf),1)) dC bM bY fun p3 r1=>mP (r1.o.length=r1.o.length) (mP (r1.o.length=r1.o.length) (ah fun h1:Value=>K (.sy (.imm h1 18 Ke r1.o ai)) (Sh2 p3.l p.com p.c0 p.c1 p.l.length) 10)))))) (by kernel_rfl) ?_
 dsimp only[kF]at hpre
 have u1:=hpre
 refine aH ⟨⟩ ?_
 refine aK ?_
 refine aH ⟨⟩ ?_
 refine aK ?_
 refine aB (⟨p.l⟩:cY) rfl (by(try dsimp only[bM]);first|omega|(simp only[aky,akG];omega)) fun r1 hi1=> ?_
 dsimp only[bY]at hi1
 refine aK (aK ?_)
 refine aj (fun h1=> ?_)
 exact ZZ hK ⟨h1,r1.o⟩ (by dsimp only[nt]<;>assumption)
noncomputable def IF:aM:=bn (fun us M=>bC (Nat.beq (ca M 1) 2) (cD M 0 8)) (be tY (cm kF Cv)) IH
theorem QT:aX Tryz.prog 13 1 IF:=aD (bi (f:=13) (k:=1) (ay Dt) Vh (by rfl) (by rfl) aa5) QV
noncomputable def Dq:=aZ Du 1 IF 13 [(0,4)]
theorem Dp:aE Tryz.prog Dq:=az QT Dt
def Sr:XF:=lg
theorem Vi:aW Tryz.prog 13 Sr=true:=il
structure rh where
 l:List Ke
 com:Int
 c0:Int
 c1:Int
 me:Int
structure Ng where
 h:Value
 o:List Ke
def uJ (p:rh) (r:Ng):Prop:=r.o=p.l∧r.o.length=p.l.length
noncomputable def zp (p:rh):IE:=([.ptr 0 0],(dJ p.l p.com p.c0 p.c1 p.me),10)
noncomputable def Cw (p:rh) (K:KE):Bool:=ah fun r:Ng=>iP (uJ p r) (K (.sy (.imm r.h 18 Ke r.o ai)) (dJ p.l p.com p.c0 p.c1 p.me) 10) true
def rO (p:rh):Prop:=p.l.length≤400∧1≤p.me∧p.me<2
theorem aaa {p:rh} {K:KE} (hK:Cw p K=true) (r:Ng) (h:uJ p r):K (.sy (.imm r.h 18 Ke r.o ai)) (dJ p.l p.com p.c0 p.c1 p.me) 10=true:=aA h (au hK r)
theorem aa6 (p:rh) (K:KE) (hpre:rO p) (hK:Cw p K=true):(aY 1 (bg Dq) bp 600 Sr (zp p).1 (zp p).2.1 (zp p).2.2 K)=true:=by
 refine Eq.trans (b:=(ax fun p1:bB=>mP (([.agg [.sy (.int 1 p.me),bj]],.leaf,0)=dc p1) (mP (bh p1) (ax fun p2:bB=>mP (([.agg [.sy (.int 1 p.me),bj]],.leaf,0)=dc p2) (mP (bh p2) (bf (([.sy (.prow 0 p.l.length)],(.node .leaf (some (.prow 68 18 Ke p.l ai)) .leaf),1)) dC bM bY fun p3 r1=>mP (r1.o.length=r1.o.length) (mP (r1.o.length=r1.o.length) (ah fun h1:Value=>K (.sy (.imm h1 18 Ke r1.o ai)) (Sf2 p3.l p.com p.c0 p.c1 p.me p.l.length) 10)))))))) (by kernel_rfl) ?_
 dsimp only[rO]at hpre
 obtain⟨u1,u2,u3⟩:=hpre
 refine aP (⟨p.me⟩:bB) rfl (by(try dsimp only[bh]);omega) ?_
 refine aP (⟨p.me⟩:bB) rfl (by(try dsimp only[bh]);omega) ?_
 refine aB (⟨p.l⟩:cY) rfl (by(try dsimp only[bM]);first|omega|(simp only[aky,akG];omega)) fun r1 hi1=> ?_
 dsimp only[bY]at hi1
 refine aK (aK ?_)
 refine aj (fun h1=> ?_)
 exact aaa hK ⟨h1,r1.o⟩ (by dsimp only[uJ]<;>assumption)
noncomputable def IG:aM:=bn (fun us M=>bC (Nat.beq (ca M 1) 2) (ig (cD M 0 8))) (be zp (cm rO Cw)) IF
theorem QU:aX Tryz.prog 13 1 IG:=aD (bi (f:=13) (k:=1) (ay Dp) Vi (by rfl) (by rfl) aa6) QT
noncomputable def Ds:=aZ Dq 1 IG 13 [(0,4)]
theorem Dr:aE Tryz.prog Ds:=az QU Dp
def So:XF:=lg
theorem Vf:aW Tryz.prog 13 So=true:=il
structure oK where
 l:List Ke
 com:Int
 c0:Int
 c1:Int
 c2:Int
structure Nc where
 h:Value
 o:List Ke
def nq (p:oK) (r:Nc):Prop:=r.o=p.l∧r.o.length=p.l.length
noncomputable def tW (p:oK):IE:=([.ptr 0 0],(dA p.l p.com p.c0 p.c1 p.c2),10)
noncomputable def Ct (p:oK) (K:KE):Bool:=ah fun r:Nc=>iP (nq p r) (K (.sy (.imm r.h 18 Ke r.o ai)) (dA p.l p.com p.c0 p.c1 p.c2) 10) true
def kD (p:oK):Prop:=p.l.length≤400
theorem ZX {p:oK} {K:KE} (hK:Ct p K=true) (r:Nc) (h:nq p r):K (.sy (.imm r.h 18 Ke r.o ai)) (dA p.l p.com p.c0 p.c1 p.c2) 10=true:=aA h (au hK r)
theorem aa3 (p:oK) (K:KE) (hpre:kD p) (hK:Ct p K=true):(aY 1 (bg Ds) bp 600 So (tW p).1 (tW p).2.1 (tW p).2.2 K)=true:=by
 refine Eq.trans (b:=(ax fun p1:dq=>mP (([.agg bu],.leaf,0)=de p1) (ax fun p2:dq=>mP (([.agg bu],.leaf,0)=de p2) (bf (([.sy (.prow 0 p.l.length)],(.node .leaf (some (.prow 68 18 Ke p.l ai)) .leaf),1)) dC bM bY fun p3 r1=>mP (r1.o.length=r1.o.length) (mP (r1.o.length=r1.o.length) (ah fun h1:Value=>K (.sy (.imm h1 18 Ke r1.o ai)) (Sh3 p3.l p.com p.c0 p.c1 p.c2 p.l.length) 10)))))) (by kernel_rfl) ?_
 dsimp only[kD]at hpre
 have u1:=hpre
 refine aH ⟨⟩ ?_
 refine aK ?_
 refine aH ⟨⟩ ?_
 refine aK ?_
 refine aB (⟨p.l⟩:cY) rfl (by(try dsimp only[bM]);first|omega|(simp only[aky,akG];omega)) fun r1 hi1=> ?_
 dsimp only[bY]at hi1
 refine aK (aK ?_)
 refine aj (fun h1=> ?_)
 exact ZX hK ⟨h1,r1.o⟩ (by dsimp only[nq]<;>assumption)
noncomputable def IB:aM:=bn (fun us M=>bC (Nat.beq (ca M 1) 3) (cD M 0 8)) (be tW (cm kD Ct)) IG
theorem QR:aX Tryz.prog 13 1 IB:=aD (bi (f:=13) (k:=1) (ay Dr) Vf (by rfl) (by rfl) aa3) QU
noncomputable def Dm:=aZ Ds 1 IB 13 [(0,4)]
theorem Dl:aE Tryz.prog Dm:=az QR Dr
def Sp:XF:=lg
theorem Vg:aW Tryz.prog 13 Sp=true:=il
structure oL where
 l:List Ke
 com:Int
 c0:Int
 c1:Int
 c2:Int
 me:Int
structure Nd where
 h:Value
 o:List Ke
def nr (p:oL) (r:Nd):Prop:=r.o=p.l∧r.o.length=p.l.length
noncomputable def tX (p:oL):IE:=([.ptr 0 0],(dm p.l p.com p.c0 p.c1 p.c2 p.me),10)
noncomputable def Cu (p:oL) (K:KE):Bool:=ah fun r:Nd=>iP (nr p r) (K (.sy (.imm r.h 18 Ke r.o ai)) (dm p.l p.com p.c0 p.c1 p.c2 p.me) 10) true
def kE (p:oL):Prop:=p.l.length≤400∧1≤p.me∧p.me<3
theorem ZY {p:oL} {K:KE} (hK:Cu p K=true) (r:Nd) (h:nr p r):K (.sy (.imm r.h 18 Ke r.o ai)) (dm p.l p.com p.c0 p.c1 p.c2 p.me) 10=true:=aA h (au hK r)
theorem aa4 (p:oL) (K:KE) (hpre:kE p) (hK:Cu p K=true):(aY 1 (bg Dm) bp 600 Sp (tX p).1 (tX p).2.1 (tX p).2.2 K)=true:=by
 refine Eq.trans (b:=(ax fun p1:bB=>mP (([.agg [.sy (.int 1 p.me),bj]],.leaf,0)=dc p1) (mP (bh p1) (ax fun p2:bB=>mP (([.agg [.sy (.int 1 p.me),bj]],.leaf,0)=dc p2) (mP (bh p2) (bf (([.sy (.prow 0 p.l.length)],(.node .leaf (some (.prow 68 18 Ke p.l ai)) .leaf),1)) dC bM bY fun p3 r1=>mP (r1.o.length=r1.o.length) (mP (r1.o.length=r1.o.length) (ah fun h1:Value=>K (.sy (.imm h1 18 Ke r1.o ai)) (Sf3 p3.l p.com p.c0 p.c1 p.c2 p.me p.l.length) 10)))))))) (by kernel_rfl) ?_
 dsimp only[kE]at hpre
 obtain⟨u1,u2,u3⟩:=hpre
 refine aP (⟨p.me⟩:bB) rfl (by(try dsimp only[bh]);omega) ?_
 refine aP (⟨p.me⟩:bB) rfl (by(try dsimp only[bh]);omega) ?_
 refine aB (⟨p.l⟩:cY) rfl (by(try dsimp only[bM]);first|omega|(simp only[aky,akG];omega)) fun r1 hi1=> ?_
 dsimp only[bY]at hi1
 refine aK (aK ?_)
 refine aj (fun h1=> ?_)
 exact ZY hK ⟨h1,r1.o⟩ (by dsimp only[nr]<;>assumption)
noncomputable def IC:aM:=bn (fun us M=>bC (Nat.beq (ca M 1) 3) (ig (cD M 0 8))) (be tX (cm kE Cu)) IB
theorem QS:aX Tryz.prog 13 1 IC:=aD (bi (f:=13) (k:=1) (ay Dl) Vg (by rfl) (by rfl) aa4) QR
noncomputable def Do:=aZ Dm 1 IC 13 [(0,4)]
theorem Dn:aE Tryz.prog Do:=az QS Dl
def Sm:XF:=lg
theorem Vd:aW Tryz.prog 13 Sm=true:=il
structure oJ where
 l:List Ke
 com:Int
 c0:Int
 c1:Int
 c2:Int
 c3:Int
structure Na where
 h:Value
 o:List Ke
def np (p:oJ) (r:Na):Prop:=r.o=p.l∧r.o.length=p.l.length
noncomputable def tV (p:oJ):IE:=([.ptr 0 0],(dz p.l p.com p.c0 p.c1 p.c2 p.c3),10)
noncomputable def Cr (p:oJ) (K:KE):Bool:=ah fun r:Na=>iP (np p r) (K (.sy (.imm r.h 18 Ke r.o ai)) (dz p.l p.com p.c0 p.c1 p.c2 p.c3) 10) true
def kC (p:oJ):Prop:=p.l.length≤400
theorem ZV {p:oJ} {K:KE} (hK:Cr p K=true) (r:Na) (h:np p r):K (.sy (.imm r.h 18 Ke r.o ai)) (dz p.l p.com p.c0 p.c1 p.c2 p.c3) 10=true:=aA h (au hK r)
theorem aa1 (p:oJ) (K:KE) (hpre:kC p) (hK:Cr p K=true):(aY 1 (bg Do) bp 600 Sm (tV p).1 (tV p).2.1 (tV p).2.2 K)=true:=by
 refine Eq.trans (b:=(ax fun p1:dq=>mP (([.agg bu],.leaf,0)=de p1) (ax fun p2:dq=>mP (([.agg bu],.leaf,0)=de p2) (bf (([.sy (.prow 0 p.l.length)],(.node .leaf (some (.prow 68 18 Ke p.l ai)) .leaf),1)) dC bM bY fun p3 r1=>mP (r1.o.length=r1.o.length) (mP (r1.o.length=r1.o.length) (ah fun h1:Value=>K (.sy (.imm h1 18 Ke r1.o ai)) (Sh4 p3.l p.com p.c0 p.c1 p.c2 p.c3 p.l.length) 10)))))) (by kernel_rfl) ?_
 dsimp only[kC]at hpre
 have u1:=hpre
 refine aH ⟨⟩ ?_
 refine aK ?_
 refine aH ⟨⟩ ?_
 refine aK ?_
 refine aB (⟨p.l⟩:cY) rfl (by(try dsimp only[bM]);first|omega|(simp only[aky,akG];omega)) fun r1 hi1=> ?_
 dsimp only[bY]at hi1
 refine aK (aK ?_)
 refine aj (fun h1=> ?_)
 exact ZV hK ⟨h1,r1.o⟩ (by dsimp only[np]<;>assumption)
noncomputable def IA:aM:=bn (fun us M=>bC (Nat.beq (ca M 1) 4) (cD M 0 8)) (be tV (cm kC Cr)) IC
theorem QQ:aX Tryz.prog 13 1 IA:=aD (bi (f:=13) (k:=1) (ay Dn) Vd (by rfl) (by rfl) aa1) QS
noncomputable def Dk:=aZ Do 1 IA 13 [(0,4)]
theorem Dj:aE Tryz.prog Dk:=az QQ Dn
def Sn:XF:=lg
theorem Ve:aW Tryz.prog 13 Sn=true:=il
structure mD where
 l:List Ke
 com:Int
 c0:Int
 c1:Int
 c2:Int
 c3:Int
 me:Int
structure Nb where
 h:Value
 o:List Ke
def jo (p:mD) (r:Nb):Prop:=r.o=p.l∧r.o.length=p.l.length
noncomputable def qJ (p:mD):IE:=([.ptr 0 0],(cV p.l p.com p.c0 p.c1 p.c2 p.c3 p.me),10)
noncomputable def Cs (p:mD) (K:KE):Bool:=ah fun r:Nb=>iP (jo p r) (K (.sy (.imm r.h 18 Ke r.o ai)) (cV p.l p.com p.c0 p.c1 p.c2 p.c3 p.me) 10) true
def gQ (p:mD):Prop:=p.l.length≤400∧1≤p.me∧p.me<4
theorem ZW {p:mD} {K:KE} (hK:Cs p K=true) (r:Nb) (h:jo p r):K (.sy (.imm r.h 18 Ke r.o ai)) (cV p.l p.com p.c0 p.c1 p.c2 p.c3 p.me) 10=true:=aA h (au hK r)
theorem aa2 (p:mD) (K:KE) (hpre:gQ p) (hK:Cs p K=true):(aY 1 (bg Dk) bp 600 Sn (qJ p).1 (qJ p).2.1 (qJ p).2.2 K)=true:=by
 refine Eq.trans (b:=(ax fun p1:bB=>mP (([.agg [.sy (.int 1 p.me),bj]],.leaf,0)=dc p1) (mP (bh p1) (ax fun p2:bB=>mP (([.agg [.sy (.int 1 p.me),bj]],.leaf,0)=dc p2) (mP (bh p2) (bf (([.sy (.prow 0 p.l.length)],(.node .leaf (some (.prow 68 18 Ke p.l ai)) .leaf),1)) dC bM bY fun p3 r1=>mP (r1.o.length=r1.o.length) (mP (r1.o.length=r1.o.length) (ah fun h1:Value=>K (.sy (.imm h1 18 Ke r1.o ai)) (Sf4 p3.l p.com p.c0 p.c1 p.c2 p.c3 p.me p.l.length) 10)))))))) (by kernel_rfl) ?_
 dsimp only[gQ]at hpre
 obtain⟨u1,u2,u3⟩:=hpre
 refine aP (⟨p.me⟩:bB) rfl (by(try dsimp only[bh]);omega) ?_
 refine aP (⟨p.me⟩:bB) rfl (by(try dsimp only[bh]);omega) ?_
 refine aB (⟨p.l⟩:cY) rfl (by(try dsimp only[bM]);first|omega|(simp only[aky,akG];omega)) fun r1 hi1=> ?_
 dsimp only[bY]at hi1
 refine aK (aK ?_)
 refine aj (fun h1=> ?_)
 exact ZW hK ⟨h1,r1.o⟩ (by dsimp only[jo]<;>assumption)
noncomputable def Ti:aM:=bn (fun us M=>bC (Nat.beq (ca M 1) 4) (ig (cD M 0 8))) (be qJ (cm gQ Cs)) IA
theorem abO:aX Tryz.prog 13 1 Ti:=aD (bi (f:=13) (k:=1) (ay Dj) Ve (by rfl) (by rfl) aa2) QQ
noncomputable def sk:=aZ Dk 1 Ti 13 [(0,4)]
theorem pt:aE Tryz.prog sk:=az abO Dj
end Go.Proofs.Tryz
namespace Go.Proofs.Tryz
open Go Go.RowKit Go.Sy
open Go.Eng hiding ah
set_option maxRecDepth 1000000
set_option linter.unusedVariables false
set_option maxHeartbeats 4000000
theorem BI:∀(a:List Fl),a.length≤gF a
 |[]=>by simp[gF]
 |x::a=>by have:=BI a;simp only[gF,List.length_cons];split<;>omega
theorem Ly {L:List Fl} {a:Nat} (h:0<L.length - a) (k:(L.drop a).length≤400):a+1≤L.length∧L.length≤L.length∧(L.drop (a+1)).length≤400∧∀x,x∈L.drop (a+1)→x∈L.drop a:=by
 obtain⟨h1,h2,h3,h4⟩:=Xr h
 exact⟨h1,h2,by omega,h4⟩
def PI1 (t:Int) (f:G1):Prop:=Prog t f.s0 ([]:List Rl) [f.c0] (f.L.drop f.a)
def DI1 (t:Int) (f:G1):Prop:=Dlv t f.s0 ([]:List Rl) [f.c0] (f.L.drop f.a)
def W1 (f:G1):Nat:=gF (f.L.drop f.a)
theorem ajO (f:G1):f.L.length - f.a≤W1 f:=by have h:=BI (f.L.drop f.a);rw[akG]at h;exact h
theorem ael {t:Int} {f g:G1} (h:ef f) (hp:PI1 t f) (ht:0≤t) (k:Tk1 f g):ef g∧DI1 t g∧W1 g≤800:=by
 have hg:=kr h k
 obtain⟨os,ha,hT,e0,e1,e2,_⟩:=k
 obtain⟨t1,t2,t3⟩:=hT
 have hD:=Dlv.start h.1 hp ht ha (by simp)
 refine⟨hg,?_,?_⟩
 ·unfold DI1
  rw[e0,e1,e2,t1]
  exact hD
 ·have h1:=BH (g.L.drop g.a)
  have h2:(g.L.drop g.a).length≤400:=hg.1.few
  show gF _≤800
  omega
theorem Zh {t:Int} {f:G1} (h:ef f) (hD:DI1 t f) (h0:f.L.length - f.a=0):PI1 (t+1) f:=by
 have h1:FInv f.s0 ([]:List Rl) [f.c0] (f.L.drop f.a):=h.1
 have h2:Dlv t f.s0 ([]:List Rl) [f.c0] (f.L.drop f.a):=hD
 have e:f.L.drop f.a=[]:=List.drop_eq_nil_of_le (by omega)
 show Prog (t+1) f.s0 ([]:List Rl) [f.c0] (f.L.drop f.a)
 rw[e]at h1 h2 ⊢
 exact h2.stop h1
def PI2 (t:Int) (f:G2):Prop:=Prog t f.s0 [f.s1] [f.c0,f.c1] (f.L.drop f.a)
def WP (t:Int) (f:G2):Prop:=Dlv t f.s0 [f.s1] [f.c0,f.c1] (f.L.drop f.a)
def W2 (f:G2):Nat:=gF (f.L.drop f.a)
theorem ajN (f:G2):f.L.length - f.a≤W2 f:=by have h:=BI (f.L.drop f.a);rw[akG]at h;exact h
theorem aek {t:Int} {f g:G2} (h:dH f) (hp:PI2 t f) (ht:0≤t) (k:WK f g):dH g∧WP t g∧W2 g≤800:=by
 have hg:=ka h k
 obtain⟨os,ha,hT,e0,e1,e2,_⟩:=k
 obtain⟨t1,t2,t3⟩:=hT
 have hD:=Dlv.start h.1 hp ht ha (by simp)
 refine⟨hg,?_,?_⟩
 ·unfold WP
  rw[e0,e1,e2,t1]
  exact hD
 ·have h1:=BH (g.L.drop g.a)
  have h2:(g.L.drop g.a).length≤400:=hg.1.few
  show gF _≤800
  omega
theorem Zg {t:Int} {f:G2} (h:dH f) (hD:WP t f) (h0:f.L.length - f.a=0):PI2 (t+1) f:=by
 have h1:FInv f.s0 [f.s1] [f.c0,f.c1] (f.L.drop f.a):=h.1
 have h2:Dlv t f.s0 [f.s1] [f.c0,f.c1] (f.L.drop f.a):=hD
 have e:f.L.drop f.a=[]:=List.drop_eq_nil_of_le (by omega)
 show Prog (t+1) f.s0 [f.s1] [f.c0,f.c1] (f.L.drop f.a)
 rw[e]at h1 h2 ⊢
 exact h2.stop h1
theorem aka {t:Int} {f g:G2} {i o cp:Nat} {x:Fl} (h:dH f) (hD:WP t f) (hx:f.L[f.a+i]?=some x) (hi:i=0) (hc:Uu {f with a:=f.a+1,o:=o,cp:=cp} x g):dH g∧WP t g∧W2 g+1=W2 f∧g.s0.l=f.s0.l∧g.now=f.now∧g.L.length≤f.L.length+1:=by
 subst hi
 have hl:=(List.getElem?_eq_some_iff.1 hx).1
 have e:f.L.drop f.a=x::f.L.drop (f.a+1):=by
  rw[List.drop_eq_getElem_cons (by omega)]
  have:=(List.getElem?_eq_some_iff.1 hx).2
  simp only[Nat.add_zero]at this
  rw[this]
 have h1:FInv f.s0 [f.s1] [f.c0,f.c1] (f.L.drop f.a):=h.1
 have h2:Dlv t f.s0 [f.s1] [f.c0,f.c1] (f.L.drop f.a):=hD
 have hm:=h1.msgs x (by rw[e];exact List.mem_cons_self)
 have hg:=aju hc (EQ (y:=f.L.length) h (Ly (L:=f.L) (a:=f.a) (by omega) h1.few)) hm
 rw[e]at h1 h2
 obtain⟨q1,q2,q3⟩:=h2.come h1 hc.1
 refine⟨hg,q1,?_,q3,hc.2.1,hc.2.2.2.2⟩
 show gF _+1=gF _
 rw[e]
 exact q2
def PI3 (t:Int) (f:G3):Prop:=Prog t f.s0 [f.s1,f.s2] [f.c0,f.c1,f.c2] (f.L.drop f.a)
def WO (t:Int) (f:G3):Prop:=Dlv t f.s0 [f.s1,f.s2] [f.c0,f.c1,f.c2] (f.L.drop f.a)
def W3 (f:G3):Nat:=gF (f.L.drop f.a)
theorem ajM (f:G3):f.L.length - f.a≤W3 f:=by have h:=BI (f.L.drop f.a);rw[akG]at h;exact h
theorem aej {t:Int} {f g:G3} (h:dD f) (hp:PI3 t f) (ht:0≤t) (k:TP f g):dD g∧WO t g∧W3 g≤800:=by
 have hg:=jg h k
 obtain⟨os,ha,hT,e0,e1,e2,_⟩:=k
 obtain⟨t1,t2,t3⟩:=hT
 have hD:=Dlv.start h.1 hp ht ha (by simp)
 refine⟨hg,?_,?_⟩
 ·unfold WO
  rw[e0,e1,e2,t1]
  exact hD
 ·have h1:=BH (g.L.drop g.a)
  have h2:(g.L.drop g.a).length≤400:=hg.1.few
  show gF _≤800
  omega
theorem Zf {t:Int} {f:G3} (h:dD f) (hD:WO t f) (h0:f.L.length - f.a=0):PI3 (t+1) f:=by
 have h1:FInv f.s0 [f.s1,f.s2] [f.c0,f.c1,f.c2] (f.L.drop f.a):=h.1
 have h2:Dlv t f.s0 [f.s1,f.s2] [f.c0,f.c1,f.c2] (f.L.drop f.a):=hD
 have e:f.L.drop f.a=[]:=List.drop_eq_nil_of_le (by omega)
 show Prog (t+1) f.s0 [f.s1,f.s2] [f.c0,f.c1,f.c2] (f.L.drop f.a)
 rw[e]at h1 h2 ⊢
 exact h2.stop h1
theorem aj9 {t:Int} {f g:G3} {i o cp:Nat} {x:Fl} (h:dD f) (hD:WO t f) (hx:f.L[f.a+i]?=some x) (hi:i=0) (hc:Lo {f with a:=f.a+1,o:=o,cp:=cp} x g):dD g∧WO t g∧W3 g+1=W3 f∧g.s0.l=f.s0.l∧g.now=f.now∧g.L.length≤f.L.length+1:=by
 subst hi
 have hl:=(List.getElem?_eq_some_iff.1 hx).1
 have e:f.L.drop f.a=x::f.L.drop (f.a+1):=by
  rw[List.drop_eq_getElem_cons (by omega)]
  have:=(List.getElem?_eq_some_iff.1 hx).2
  simp only[Nat.add_zero]at this
  rw[this]
 have h1:FInv f.s0 [f.s1,f.s2] [f.c0,f.c1,f.c2] (f.L.drop f.a):=h.1
 have h2:Dlv t f.s0 [f.s1,f.s2] [f.c0,f.c1,f.c2] (f.L.drop f.a):=hD
 have hm:=h1.msgs x (by rw[e];exact List.mem_cons_self)
 have hg:=ajt hc (EP (y:=f.L.length) h (Ly (L:=f.L) (a:=f.a) (by omega) h1.few)) hm
 rw[e]at h1 h2
 obtain⟨q1,q2,q3⟩:=h2.come h1 hc.1
 refine⟨hg,q1,?_,q3,hc.2.1,hc.2.2.2.2⟩
 show gF _+1=gF _
 rw[e]
 exact q2
def PI4 (t:Int) (f:G4):Prop:=Prog t f.s0 [f.s1,f.s2,f.s3] [f.c0,f.c1,f.c2,f.c3] (f.L.drop f.a)
def WN (t:Int) (f:G4):Prop:=Dlv t f.s0 [f.s1,f.s2,f.s3] [f.c0,f.c1,f.c2,f.c3] (f.L.drop f.a)
def W4 (f:G4):Nat:=gF (f.L.drop f.a)
theorem ajL (f:G4):f.L.length - f.a≤W4 f:=by have h:=BI (f.L.drop f.a);rw[akG]at h;exact h
theorem aei {t:Int} {f g:G4} (h:dy f) (hp:PI4 t f) (ht:0≤t) (k:OT f g):dy g∧WN t g∧W4 g≤800:=by
 have hg:=iF h k
 obtain⟨os,ha,hT,e0,e1,e2,_⟩:=k
 obtain⟨t1,t2,t3⟩:=hT
 have hD:=Dlv.start h.1 hp ht ha (by simp)
 refine⟨hg,?_,?_⟩
 ·unfold WN
  rw[e0,e1,e2,t1]
  exact hD
 ·have h1:=BH (g.L.drop g.a)
  have h2:(g.L.drop g.a).length≤400:=hg.1.few
  show gF _≤800
  omega
theorem Ze {t:Int} {f:G4} (h:dy f) (hD:WN t f) (h0:f.L.length - f.a=0):PI4 (t+1) f:=by
 have h1:FInv f.s0 [f.s1,f.s2,f.s3] [f.c0,f.c1,f.c2,f.c3] (f.L.drop f.a):=h.1
 have h2:Dlv t f.s0 [f.s1,f.s2,f.s3] [f.c0,f.c1,f.c2,f.c3] (f.L.drop f.a):=hD
 have e:f.L.drop f.a=[]:=List.drop_eq_nil_of_le (by omega)
 show Prog (t+1) f.s0 [f.s1,f.s2,f.s3] [f.c0,f.c1,f.c2,f.c3] (f.L.drop f.a)
 rw[e]at h1 h2 ⊢
 exact h2.stop h1
theorem aj8 {t:Int} {f g:G4} {i o cp:Nat} {x:Fl} (h:dy f) (hD:WN t f) (hx:f.L[f.a+i]?=some x) (hi:i=0) (hc:EL {f with a:=f.a+1,o:=o,cp:=cp} x g):dy g∧WN t g∧W4 g+1=W4 f∧g.s0.l=f.s0.l∧g.now=f.now∧g.L.length≤f.L.length+1:=by
 subst hi
 have hl:=(List.getElem?_eq_some_iff.1 hx).1
 have e:f.L.drop f.a=x::f.L.drop (f.a+1):=by
  rw[List.drop_eq_getElem_cons (by omega)]
  have:=(List.getElem?_eq_some_iff.1 hx).2
  simp only[Nat.add_zero]at this
  rw[this]
 have h1:FInv f.s0 [f.s1,f.s2,f.s3] [f.c0,f.c1,f.c2,f.c3] (f.L.drop f.a):=h.1
 have h2:Dlv t f.s0 [f.s1,f.s2,f.s3] [f.c0,f.c1,f.c2,f.c3] (f.L.drop f.a):=hD
 have hm:=h1.msgs x (by rw[e];exact List.mem_cons_self)
 have hg:=ajs hc (EO (y:=f.L.length) h (Ly (L:=f.L) (a:=f.a) (by omega) h1.few)) hm
 rw[e]at h1 h2
 obtain⟨q1,q2,q3⟩:=h2.come h1 hc.1
 refine⟨hg,q1,?_,q3,hc.2.1,hc.2.2.2.2⟩
 show gF _+1=gF _
 rw[e]
 exact q2
def tJ:XC:=(.aft (.seq (.seq (g_ 10 [p_ 0 25 (m_ 6),p_ 1 26 (.bin 3 0 (.t 25) (i_ 3000)),p_ 2 27 (m_ 26),am 3 28 27 true (m_ 0),am 4 29 27 true (n_ 28),am 5 30 27 true (f_ 2 29),aU 6 31 27 true (l_ 30),am 7 32 27 true (k_ 31),am 8 33 27 true (.bin 3 2 (.t 32) (i_ 0)),p_ 9 34 (.pick (.t 27) (.t 33) (.c (.bool false)))]) (.cond (.t 34) .skip (.exit 6))) (.seq (.block 7 (.seq (g_ 8 [p_ 0 37 (m_ 0),p_ 1 38 (n_ 37),p_ 2 39 (f_ 2 38),r_ 3 40 (l_ 39),p_ 4 41 (.ixs 33 (.t 40) (i_ 0)),r_ 5 42 (.ld true 33 (.t 41)),e_ 6 7 (.al 76 [.int 0 (.ofNat 0),.int 0 (.ofNat 0),.int 1 (.ofNat 0),.int 1 (.ofNat 0),.int 1 (.ofNat 0),.int 3 (.ofNat 0),.int 3 (.ofNat 0),.int 3 (.ofNat 0),.int 3 (.ofNat 0),.int 4 (.ofNat 0),.int 4 (.ofNat 0),.int 1 (.ofNat 0),.int 2 (.ofNat 0),.int 3 (.ofNat 0),.int 1 (.ofNat 0),.int 1 (.ofNat 0),.int 1 (.ofNat 0),.int 1 (.ofNat 0),.int 1 (.ofNat 0),.int 1 (.ofNat 0),.int 1 (.ofNat 0),.nilS,.int 1 (.ofNat 0),.str [],.int 1 (.ofNat 0),.int 3 (.ofNat 0),.nilS,.int 1 (.ofNat 0),.int 2 (.ofNat 0),.bool false,.nilS,.nilS,.nilS]),bm 7 (.st 33 (.t 7) (.t 42))]) (.seq (g_ 9 [p_ 0 43 (m_ 0),p_ 1 44 (m_ 0),p_ 2 45 (n_ 44),p_ 3 46 (f_ 2 45),r_ 4 47 (l_ 46),r_ 5 48 (.sls 33 (.t 47) (some (i_ 1)) none none),p_ 6 49 (n_ 43),p_ 7 50 (f_ 2 49),bm 8 (.st 1 (.t 50) (.t 48))]) (g_ 3 [p_ 0 51 (m_ 0),r_ 1 52 (.ld true 33 (.t 7)),c_ 2 53 29 [.t 51,.t 52]])))) (g_ 3 [p_ 0 35 (m_ 6),p_ 1 36 (.bin 0 0 (.t 35) (i_ 1)),p_ 2 6 (m_ 36)]))) [(0,[.can 1 [0,1,4,6]]),(6,[.can 1 [0,1,4]])])
def Mw:XC:=(.aft (.seq (.seq (g_ 3 [p_ 0 8 (m_ 4),p_ 1 9 (m_ 1),p_ 2 10 (.bin 3 0 (.t 8) (.t 9))]) (.cond (.t 10) .skip (.exit 2))) (.seq (.block 3 (.seq (.seq (g_ 1 [p_ 0 5 (.mv (i_ 0))]) (.block 4 (.loop [0,1,4,5,6,7,8,9,10,11,12,13,14,15,16,17,18,19,20,21,22,23,25,26,27,28,29,30,31,32,33,34,35,36,37,38,39,40,41,42,43,44,45,46,47,48,49,50,51,52] (.seq (.seq (g_ 7 [p_ 0 13 (m_ 5),p_ 1 14 (m_ 0),p_ 2 15 (n_ 14),p_ 3 16 (f_ 0 15),r_ 4 17 (l_ 16),p_ 5 18 (k_ 17),p_ 6 19 (.bin 3 0 (.t 13) (.t 18))]) (.cond (.t 19) .skip (.exit 4))) (.seq (.block 5 (g_ 3 [p_ 0 22 (m_ 0),p_ 1 23 (m_ 5),c_ 2 24 28 [.t 22,.t 23]])) (g_ 3 [p_ 0 20 (m_ 5),p_ 1 21 (.bin 0 0 (.t 20) (i_ 1)),p_ 2 5 (m_ 21)])))))) (.seq (g_ 1 [p_ 0 6 (.mv (i_ 0))]) (.block 6 (.pre [.can 1 [0,1,4,6],.up 6,.can 1 [0,1,4,6]] (.inv 1 tJ)))))) (g_ 3 [p_ 0 11 (m_ 4),p_ 1 12 (.bin 0 0 (.t 11) (i_ 1)),p_ 2 4 (m_ 12)]))) [(0,[.can 1 [0,1,4]]),(2,[.can 1 []])])
def OC:XF:=.mk 54 .none (.seq (g_ 1 [p_ 0 4 (.mv (i_ 0))]) (.block 2 (.pre [.can 1 [0,1,4],.up 4,.can 1 [0,1,4]] (.inv 0 Mw))))
theorem RZ:aW Tryz.prog 15 OC=true:=by kernel_rfl
structure lK where
 f:G1
 t:Int
 i:Int
structure Ug where
 f:G1
def tD (p:lK) (r:Ug):Prop:=ef r.f∧PI1 (p.t+1) r.f∧(r.f.L.length:Int)≤200000+4000*p.t+803∧0≤r.f.now∧r.f.now≤100000+4*p.t+4∧r.f.s0.l.length≤80
noncomputable def vY (p:lK):IL:=((.cons 6 (.sy (.int 0 p.i)) (.cons 4 (.sy (.int 0 p.t)) (.cons 1 (cx) (.cons 0 (.ptr 0 0) .nil)))),(cN p.f (p.f.L.length - p.f.a) p.f.s0.l.length),14)
noncomputable def Ht (p:lK) (K:KC):Bool:=ah fun r:Ug=>iP (tD p r) (K 6 (.cons 4 (.sy (.int 0 p.t)) (.cons 1 (cx) (.cons 0 (.ptr 0 0) .nil))) (cN r.f (r.f.L.length - r.f.a) r.f.s0.l.length) 14) true
def ut (p:lK):Prop:=ef p.f∧DI1 p.t p.f∧0≤p.t∧p.t<20∧0≤p.i∧p.i+(W1 p.f:Int)≤3000∧(p.f.L.length:Int)+(W1 p.f:Int)≤200000+4000*p.t+803∧0≤p.f.now∧p.f.now≤100000+4*p.t+4∧p.f.s0.l.length≤80
theorem SU {p:lK} {K:KC} (hK:Ht p K=true) (r:Ug) (h:tD p r):K 6 (.cons 4 (.sy (.int 0 p.t)) (.cons 1 (cx) (.cons 0 (.ptr 0 0) .nil))) (cN r.f (r.f.L.length - r.f.a) r.f.s0.l.length) 14=true:=aA h (au hK r)
noncomputable def Lz (p:lK) (K:KC):Bool:=ac (aF (ut p)) (Ht p K)
structure jJ where
 f:G1
 t:Int
structure TU where
 f:G1
def yk (p:jJ) (r:TU):Prop:=ef r.f∧r.f.s0.com=(r.f.s0.l.length:Int)∧r.f.s0.l.length≤80
noncomputable def pH (p:jJ):IL:=((.cons 4 (.sy (.int 0 p.t)) (.cons 1 (cx) (.cons 0 (.ptr 0 0) .nil))),(cN p.f (p.f.L.length - p.f.a) p.f.s0.l.length),14)
noncomputable def zR (p:jJ) (K:KC):Bool:=ah fun r:TU=>iP (yk p r) (K 2 .nil (cN r.f (r.f.L.length - r.f.a) r.f.s0.l.length) 14) true
def mZ (p:jJ):Prop:=ef p.f∧PI1 p.t p.f∧0≤p.t∧p.t≤20∧(p.f.L.length:Int)≤200000+4000*p.t∧0≤p.f.now∧p.f.now≤100000+4*p.t+0∧p.f.s0.l.length≤80
theorem ace {p:jJ} {K:KC} (hK:zR p K=true) (r:TU) (h:yk p r):K 2 .nil (cN r.f (r.f.L.length - r.f.a) r.f.s0.l.length) 14=true:=aA h (au hK r)
noncomputable def EX (p:jJ) (K:KC):Bool:=ac (aF (mZ p)) (zR p K)
noncomputable def ow:gB:=fun j S M nx K=>(Bool.rec ((Bool.rec (false) (ax fun p:jJ=>ac (aF ((S,M,nx)=pH p)) (EX p K)) (Nat.beq j 0))) (ax fun p:lK=>ac (aF ((S,M,nx)=vY p)) (Lz p K)) (Nat.beq j 1))
def LS (p:lK):Nat:=(3000 - p.i).toNat
theorem adT (p:lK) (K:KC) (hpre:ut p) (hK:Ht p K=true):(cC (bg sk) ow 600 tJ (vY p).1 (vY p).2.1 (vY p).2.2 (fun e S M nx=>Nat.casesOn e (ax fun q:lK=>ac (aF ((S,M,nx)=vY q∧LS q<LS p)) (Lz q K)) (fun e2=>K (Nat.succ e2) S M nx)))=true:=by
 refine Eq.trans (b:=(let z0:Bool:=(K 6 (.cons 4 (.sy (.int 0 p.t)) (.cons 1 (cx) (.cons 0 (.ptr 0 0) .nil))) (cN p.f (p.f.L.length - p.f.a) p.f.s0.l.length) 14);iP (p.i<(3000:Int)) (iP ((0:Int)<((p.f.L.length - p.f.a:Nat):Int)) (mP (0≤(0:Int)∧(0:Int)<((p.f.L.length - p.f.a:Nat):Int)) (mP ((p.f.a+0)<p.f.L.length) (ah fun x1:Fl=>iP (p.f.L[p.f.a+0]?=some x1) (mP (0≤(1:Int)∧(1:Int)≤((p.f.L.length - p.f.a:Nat):Int)∧((p.f.L.length - p.f.a:Nat):Int)≤((p.f.L.length - p.f.a:Nat):Int)) (false)) true))) z0) z0)) (by kernel_rfl) ?_
 dsimp only[ut]at hpre
 obtain⟨hinv,hD,y1,y2,y3,y4,y5,y6,y7,y8⟩:=hpre
 have hI:FInv p.f.s0 _ _ (p.f.L.drop p.f.a):=hinv.1
 obtain⟨a0,a1,a2,a3⟩:=wF hinv
 have wg:=ajO p.f
 have hz:=adn hI
 refine iI (fun hc1=> ?_) (fun hc1=> ?_)
 refine iI (fun hc2=> ?_) (fun hc2=> ?_)
 refine gy (cZ ?_)
 refine aj (fun x1=> ?_)
 refine iI (fun hi3=> ?_) (fun _=>rfl)
 refine mI (by(first|omega|(simp[aC]<;>omega))) ?_
 exfalso;omega
 exact SU hK ⟨p.f⟩ (by dsimp only[tD]<;>(first|(exfalso;omega)|exact⟨hinv,Zh hinv hD (by omega),by omega,by omega,by omega,by omega⟩))
 exact SU hK ⟨p.f⟩ (by dsimp only[tD]<;>(first|(exfalso;omega)|exact⟨hinv,Zh hinv hD (by omega),by omega,by omega,by omega,by omega⟩))
theorem afe:dp Tryz.prog 54 1 ow true 1 tJ:=by
 exact gD (lf:=600) bD (ay pt) (by rfl) vY LS Lz (fun b j x h=>by cases h) (fun S M nx K h=>by obtain⟨p,h⟩:=bJ h;exact⟨p,(ae h).1,(ae h).2⟩) (fun p K h=>adT p K (ae h).1 (ae h).2)
def lX (p:jJ):Nat:=(20 - p.t).toNat
noncomputable def WB (s:IL) (n:Nat) (K:KC):Bool:=ax fun q=>mP (s=pH q∧lX q<n) (EX q K)
theorem afU {p q:jJ} {K:KC} {s:IL} (hm:lX q<lX p) (hp:mZ q) (hK:zR q K=true) (e:s=pH q):WB s (lX p) K=true:=aH q (bT ⟨e,hm⟩ (bT hp hK))
theorem adD (p:jJ) (K:KC) (hpre:mZ p) (hK:zR p K=true):(cC (bg sk) ow 600 Mw (pH p).1 (pH p).2.1 (pH p).2.2 (fun e S M nx=>Nat.casesOn e (ax fun q:jJ=>ac (aF ((S,M,nx)=pH q∧lX q<lX p)) (EX q K)) (fun e2=>K (Nat.succ e2) S M nx)))=true:=by
 refine Eq.trans (b:=(iP (p.t<(20:Int)) (bf (([.ptr 0 0,cE],(cN p.f (p.f.L.length - p.f.a) p.f.s0.l.length),14)) lF fh fF fun p1 r1=>bf (((.cons 6 (.sy (.int 0 0)) (.cons 4 (.sy (.int 0 p.t)) (.cons 1 (cx) (.cons 0 (.ptr 0 0) .nil)))),(cN r1.f (r1.f.L.length - r1.f.a) r1.f.s0.l.length),14)) vY ut tD fun p2 r2=>mP (aL 0 (p2.t+(1:Int))) (WB ((.cons 4 (.sy (.int 0 (p2.t+(1:Int)))) (.cons 1 (cx) (.cons 0 (.ptr 0 0) .nil))),(cN r2.f (r2.f.L.length - r2.f.a) r2.f.s0.l.length),14) (lX p) K)) (K 2 .nil (cN p.f (p.f.L.length - p.f.a) p.f.s0.l.length) 14))) (by kernel_rfl) ?_
 dsimp only[mZ]at hpre
 obtain⟨hinv,hP,y1,y2,y3,y4,y5,y6⟩:=hpre
 have hI:FInv p.f.s0 _ _ (p.f.L.drop p.f.a):=hinv.1
 obtain⟨a0,a1,a2,a3⟩:=wF hinv
 refine iI (fun hc1=> ?_) (fun hc1=> ?_)
 refine aB (⟨p.f⟩:ia) rfl (by(try dsimp only[fh]);first|exact⟨by assumption,by omega,by omega,by omega⟩|(obtain⟨z1,z2,z3,z4⟩:=jZ hi0;have z:=kr hinv hi0;exact⟨z,by omega,by omega,by omega⟩)) fun r1 hi2=> ?_
 dsimp only[fF]at hi2
 refine aB (⟨r1.f,p.t,(0:Int)⟩:lK) rfl (by(try dsimp only[ut]);obtain⟨z1,z2,z3,z4⟩:=jZ hi2;obtain⟨v1,v2,v3⟩:=ael hinv hP (by omega) hi2;dsimp only[W1]at v3 ⊢;exact⟨v1,v2,by omega,by omega,by omega,by omega,by omega,by omega,by omega,by omega⟩) fun r2 hi3=> ?_
 dsimp only[tD]at hi3
 refine aQ ?_
 exact afU (q:=⟨r2.f,p.t+(1:Int)⟩) (by dsimp only[lX];omega) (by dsimp only[mZ];obtain⟨v1,v2,v3,v4,v5,v6⟩:=hi3;exact⟨v1,v2,by omega,by omega,by omega,by omega,by omega,by omega⟩) hK rfl
 exact ace hK ⟨p.f⟩ (by dsimp only[yk]<;>(obtain⟨q1,q2⟩:=Prog.done hI hP (by omega) (by omega);exact⟨hinv,q1,by omega⟩))
theorem aeY:dp Tryz.prog 54 1 ow true 0 Mw:=by
 exact gD (lf:=600) bD (ay pt) (by rfl) pH lX EX (fun b j x h=>(bZ afe (fun h=>(by cases h)) h)) (fun S M nx K h=>by obtain⟨p,h⟩:=bJ h;exact⟨p,(ae h).1,(ae h).2⟩) (fun p K h=>adD p K (ae h).1 (ae h).2)
structure nN where
 f:G1
structure Jo where
 f:G1
def si (p:nN) (r:Jo):Prop:=ef r.f∧r.f.s0.com=(r.f.s0.l.length:Int)∧r.f.s0.l.length≤80
noncomputable def vT (p:nN):IE:=([.ptr 0 0,cx],(cN p.f (p.f.L.length - p.f.a) p.f.s0.l.length),14)
noncomputable def Ac (p:nN) (K:KE):Bool:=ah fun r:Jo=>iP (si p r) (K (.tup []) (cN r.f (r.f.L.length - r.f.a) r.f.s0.l.length) 14) true
def pd (p:nN):Prop:=ef p.f∧0≤p.f.now∧p.f.now≤100000∧p.f.L.length≤200000∧p.f.s0.l.length≤80
theorem Yj {p:nN} {K:KE} (hK:Ac p K=true) (r:Jo) (h:si p r):K (.tup []) (cN r.f (r.f.L.length - r.f.a) r.f.s0.l.length) 14=true:=aA h (au hK r)
theorem YP (p:nN) (K:KE) (hpre:pd p) (hK:Ac p K=true):(aY 1 (bg sk) ow 600 OC (vT p).1 (vT p).2.1 (vT p).2.2 K)=true:=by
 refine Eq.trans (b:=(bf (((.cons 4 (.sy (.int 0 0)) (.cons 1 (cx) (.cons 0 (.ptr 0 0) .nil))),(cN p.f (p.f.L.length - p.f.a) p.f.s0.l.length),14)) pH mZ yk fun p1 r1=>K (.tup []) (cN r1.f (r1.f.L.length - r1.f.a) r1.f.s0.l.length) 14)) (by kernel_rfl) ?_
 dsimp only[pd]at hpre
 obtain⟨hinv,y1,y2,y3,y4⟩:=hpre
 have hI:FInv p.f.s0 _ _ (p.f.L.drop p.f.a):=hinv.1
 obtain⟨a0,a1,a2,a3⟩:=wF hinv
 refine aB (⟨p.f,(0:Int)⟩:jJ) rfl (by(try dsimp only[mZ]);exact⟨hinv,Prog.zero hI,by omega,by omega,by omega,by omega,by omega,by omega⟩) fun r1 hi1=> ?_
 dsimp only[yk]at hi1
 exact Yj hK ⟨r1.f⟩ (by dsimp only[si]<;>assumption)
noncomputable def Eh:aM:=bn (fun us M=>Nat.beq (ca M 1) 1) (be vT (cm pd Ac)) (fun _ _ _ _=>false)
theorem NY:aX Tryz.prog 15 1 Eh:=aD (cS (f:=15) (k:=1) (lp:=ow) (lf:=600) bD (ay pt) RZ (by rfl) (fun b j x h=>(bZ aeY (fun h=>(by cases h)) h)) fun p K h=>YP p K (ae h).1 (ae h).2) dT
noncomputable def pr:=aZ sk 1 Eh 15 [(0,4),(1,1)]
theorem mS:aE Tryz.prog pr:=az NY pt
def MK:XC:=tJ
def Mv:XC:=(.aft (.seq (.seq (g_ 3 [p_ 0 8 (m_ 4),p_ 1 9 (m_ 1),p_ 2 10 (.bin 3 0 (.t 8) (.t 9))]) (.cond (.t 10) .skip (.exit 2))) (.seq (.block 3 (.seq (.seq (g_ 1 [p_ 0 5 (.mv (i_ 0))]) (.block 4 (.loop [0,1,4,5,6,7,8,9,10,11,12,13,14,15,16,17,18,19,20,21,22,23,25,26,27,28,29,30,31,32,33,34,35,36,37,38,39,40,41,42,43,44,45,46,47,48,49,50,51,52] (.seq (.seq (g_ 7 [p_ 0 13 (m_ 5),p_ 1 14 (m_ 0),p_ 2 15 (n_ 14),p_ 3 16 (f_ 0 15),r_ 4 17 (l_ 16),p_ 5 18 (k_ 17),p_ 6 19 (.bin 3 0 (.t 13) (.t 18))]) (.cond (.t 19) .skip (.exit 4))) (.seq (.block 5 (g_ 3 [p_ 0 22 (m_ 0),p_ 1 23 (m_ 5),c_ 2 24 28 [.t 22,.t 23]])) (g_ 3 [p_ 0 20 (m_ 5),p_ 1 21 (.bin 0 0 (.t 20) (i_ 1)),p_ 2 5 (m_ 21)])))))) (.seq (g_ 1 [p_ 0 6 (.mv (i_ 0))]) (.block 6 (.pre [.can 1 [0,1,4,6],.up 6,.can 1 [0,1,4,6]] (.inv 1 MK)))))) (g_ 3 [p_ 0 11 (m_ 4),p_ 1 12 (.bin 0 0 (.t 11) (i_ 1)),p_ 2 4 (m_ 12)]))) [(0,[.can 1 [0,1,4]]),(2,[.can 1 []])])
def OB:XF:=.mk 54 .none (.seq (g_ 1 [p_ 0 4 (.mv (i_ 0))]) (.block 2 (.pre [.can 1 [0,1,4],.up 4,.can 1 [0,1,4]] (.inv 0 Mv))))
theorem RY:aW Tryz.prog 15 OB=true:=by kernel_rfl
structure jQ where
 f:G2
 t:Int
 i:Int
structure Uf where
 f:G2
def tC (p:jQ) (r:Uf):Prop:=dH r.f∧PI2 (p.t+1) r.f∧(r.f.L.length:Int)≤200000+4000*p.t+803∧0≤r.f.now∧r.f.now≤100000+4*p.t+4∧r.f.s0.l.length≤80
noncomputable def pS (p:jQ):IL:=((.cons 6 (.sy (.int 0 p.i)) (.cons 4 (.sy (.int 0 p.t)) (.cons 1 (cx) (.cons 0 (.ptr 0 0) .nil)))),(cd p.f (p.f.L.length - p.f.a) p.f.s0.l.length p.f.s1.l.length),24)
noncomputable def Al (p:jQ) (K:KC):Bool:=ah fun r:Uf=>iP (tC p r) (K 6 (.cons 4 (.sy (.int 0 p.t)) (.cons 1 (cx) (.cons 0 (.ptr 0 0) .nil))) (cd r.f (r.f.L.length - r.f.a) r.f.s0.l.length r.f.s1.l.length) 24) true
def ng (p:jQ):Prop:=dH p.f∧WP p.t p.f∧0≤p.t∧p.t<20∧0≤p.i∧p.i+(W2 p.f:Int)≤3000∧(p.f.L.length:Int)+(W2 p.f:Int)≤200000+4000*p.t+803∧0≤p.f.now∧p.f.now≤100000+4*p.t+4∧p.f.s0.l.length≤80
theorem SS {p:jQ} {K:KC} (hK:Al p K=true) (r:Uf) (h:tC p r):K 6 (.cons 4 (.sy (.int 0 p.t)) (.cons 1 (cx) (.cons 0 (.ptr 0 0) .nil))) (cd r.f (r.f.L.length - r.f.a) r.f.s0.l.length r.f.s1.l.length) 24=true:=aA h (au hK r)
noncomputable def Ff (p:jQ) (K:KC):Bool:=ac (aF (ng p)) (Al p K)
structure jI where
 f:G2
 t:Int
structure TT where
 f:G2
def yj (p:jI) (r:TT):Prop:=dH r.f∧r.f.s0.com=(r.f.s0.l.length:Int)∧r.f.s0.l.length≤80∧(r.f.s1.l=r.f.s0.l∧r.f.s1.l.length=r.f.s0.l.length∧r.f.s1.com=(r.f.s0.l.length:Int))
noncomputable def pG (p:jI):IL:=((.cons 4 (.sy (.int 0 p.t)) (.cons 1 (cx) (.cons 0 (.ptr 0 0) .nil))),(cd p.f (p.f.L.length - p.f.a) p.f.s0.l.length p.f.s1.l.length),24)
noncomputable def zQ (p:jI) (K:KC):Bool:=ah fun r:TT=>iP (yj p r) (K 2 .nil (cd r.f (r.f.L.length - r.f.a) r.f.s0.l.length r.f.s1.l.length) 24) true
def mY (p:jI):Prop:=dH p.f∧PI2 p.t p.f∧0≤p.t∧p.t≤20∧(p.f.L.length:Int)≤200000+4000*p.t∧0≤p.f.now∧p.f.now≤100000+4*p.t+0∧p.f.s0.l.length≤80
theorem acd {p:jI} {K:KC} (hK:zQ p K=true) (r:TT) (h:yj p r):K 2 .nil (cd r.f (r.f.L.length - r.f.a) r.f.s0.l.length r.f.s1.l.length) 24=true:=aA h (au hK r)
noncomputable def EW (p:jI) (K:KC):Bool:=ac (aF (mY p)) (zQ p K)
noncomputable def ov:gB:=fun j S M nx K=>(Bool.rec ((Bool.rec (false) (ax fun p:jI=>ac (aF ((S,M,nx)=pG p)) (EW p K)) (Nat.beq j 0))) (ax fun p:jQ=>ac (aF ((S,M,nx)=pS p)) (Ff p K)) (Nat.beq j 1))
def mc (p:jQ):Nat:=(3000 - p.i).toNat
noncomputable def WF (s:IL) (n:Nat) (K:KC):Bool:=ax fun q=>mP (s=pS q∧mc q<n) (Ff q K)
theorem afY {p q:jQ} {K:KC} {s:IL} (hm:mc q<mc p) (hp:ng q) (hK:Al q K=true) (e:s=pS q):WF s (mc p) K=true:=aH q (bT ⟨e,hm⟩ (bT hp hK))
theorem adS (p:jQ) (K:KC) (hpre:ng p) (hK:Al p K=true):(cC (bg pr) ov 600 MK (pS p).1 (pS p).2.1 (pS p).2.2 (fun e S M nx=>Nat.casesOn e (ax fun q:jQ=>ac (aF ((S,M,nx)=pS q∧mc q<mc p)) (Ff q K)) (fun e2=>K (Nat.succ e2) S M nx)))=true:=by
 refine Eq.trans (b:=(let z0:Bool:=(K 6 (.cons 4 (.sy (.int 0 p.t)) (.cons 1 (cx) (.cons 0 (.ptr 0 0) .nil))) (cd p.f (p.f.L.length - p.f.a) p.f.s0.l.length p.f.s1.l.length) 24);iP (p.i<(3000:Int)) (iP ((0:Int)<((p.f.L.length - p.f.a:Nat):Int)) (mP (0≤(0:Int)∧(0:Int)<((p.f.L.length - p.f.a:Nat):Int)) (mP ((p.f.a+0)<p.f.L.length) (ah fun x1:Fl=>iP (p.f.L[p.f.a+0]?=some x1) (mP (0≤(1:Int)∧(1:Int)≤((p.f.L.length - p.f.a:Nat):Int)∧((p.f.L.length - p.f.a:Nat):Int)≤((p.f.L.length - p.f.a:Nat):Int)) (bf (([.ptr 0 0,.agg [.sy (.int 0 x1.fr),.sy (.int 0 x1.to),.sy (.int 1 x1.k),aa,aa,bt,.sy (.int 3 x1.n),.sy (.int 3 x1.c),aw,aI,aI,aa,aJ,aw,aa,aa,aa,aa,aa,aa,aa,.nilS,aa,.str [],aa,aw,.nilS,aa,aJ,.bool false,.nilS,.sy (.imm x1.h 18 Ke x1.l ai),.nilS]],(cd ({p.f with a:=p.f.a+1,o:=(if p.f.cp=p.f.a then p.f.o else p.f.a*33)}:G2) ((p.f.L.length - p.f.a) - 1) p.f.s0.l.length p.f.s1.l.length),24)) ud kL jp fun p1 r1=>mP (aL 0 (p.i+(1:Int))) (WF ((.cons 6 (.sy (.int 0 (p.i+(1:Int)))) (.cons 4 (.sy (.int 0 p.t)) (.cons 1 (cx) (.cons 0 (.ptr 0 0) .nil)))),(cd r1.f (r1.f.L.length - r1.f.a) r1.f.s0.l.length r1.f.s1.l.length),24) (mc p) K))) true))) z0) z0)) (by kernel_rfl) ?_
 dsimp only[ng]at hpre
 obtain⟨hinv,hD,y1,y2,y3,y4,y5,y6,y7,y8⟩:=hpre
 have hI:FInv p.f.s0 _ _ (p.f.L.drop p.f.a):=hinv.1
 obtain⟨a0,a1,a2,a3,⟨b1,c1,d1,e1,f1⟩⟩:=rC hinv
 have wg:=ajN p.f
 refine iI (fun hc1=> ?_) (fun hc1=> ?_)
 refine iI (fun hc2=> ?_) (fun hc2=> ?_)
 refine gy (cZ ?_)
 refine aj (fun x1=> ?_)
 refine iI (fun hi3=> ?_) (fun _=>rfl)
 refine mI (by(first|omega|(simp[aC]<;>omega))) ?_
 refine aB (⟨({p.f with a:=p.f.a+1,o:=(if p.f.cp=p.f.a then p.f.o else p.f.a*33)}:G2),x1⟩:oQ) rfl (by(try dsimp only[kL]);exact⟨EQ hinv (Ly (L:=p.f.L) (a:=p.f.a) (by omega) hI.few),hI.msgs _ (gH (by assumption)),by omega,by omega,by omega⟩) fun r1 hi4=> ?_
 dsimp only[jp]at hi4
 refine aQ ?_
 exact afY (q:=⟨r1.f,p.t,p.i+(1:Int)⟩) (by dsimp only[mc];omega) (by dsimp only[ng];obtain⟨v1,v2,v3,v4,v5,v6⟩:=aka hinv hD (by assumption) rfl hi4;have v7:=congrArg List.length v4;exact⟨v1,v2,by omega,by omega,by omega,by omega,by omega,by omega,by omega,by omega⟩) hK rfl
 exact SS hK ⟨p.f⟩ (by dsimp only[tC]<;>(first|(exfalso;omega)|exact⟨hinv,Zg hinv hD (by omega),by omega,by omega,by omega,by omega⟩))
 exact SS hK ⟨p.f⟩ (by dsimp only[tC]<;>(first|(exfalso;omega)|exact⟨hinv,Zg hinv hD (by omega),by omega,by omega,by omega,by omega⟩))
theorem afd:dp Tryz.prog 54 1 ov true 1 MK:=by
 exact gD (lf:=600) bD (ay mS) (by rfl) pS mc Ff (fun b j x h=>by cases h) (fun S M nx K h=>by obtain⟨p,h⟩:=bJ h;exact⟨p,(ae h).1,(ae h).2⟩) (fun p K h=>adS p K (ae h).1 (ae h).2)
def lW (p:jI):Nat:=(20 - p.t).toNat
noncomputable def WA (s:IL) (n:Nat) (K:KC):Bool:=ax fun q=>mP (s=pG q∧lW q<n) (EW q K)
theorem afT {p q:jI} {K:KC} {s:IL} (hm:lW q<lW p) (hp:mY q) (hK:zQ q K=true) (e:s=pG q):WA s (lW p) K=true:=aH q (bT ⟨e,hm⟩ (bT hp hK))
theorem adC (p:jI) (K:KC) (hpre:mY p) (hK:zQ p K=true):(cC (bg pr) ov 600 Mv (pG p).1 (pG p).2.1 (pG p).2.2 (fun e S M nx=>Nat.casesOn e (ax fun q:jI=>ac (aF ((S,M,nx)=pG q∧lW q<lW p)) (EW q K)) (fun e2=>K (Nat.succ e2) S M nx)))=true:=by
 refine Eq.trans (b:=(iP (p.t<(20:Int)) (bf (([.ptr 0 0,cE],(cd p.f (p.f.L.length - p.f.a) p.f.s0.l.length p.f.s1.l.length),24)) lE fg fi fun p1 r1=>ax fun p2:fU=>mP (([.ptr 0 0,sS],(cd r1.f (r1.f.L.length - r1.f.a) r1.f.s0.l.length r1.f.s1.l.length),24)=lD p2) (mP (ff p2) (bf (((.cons 6 (.sy (.int 0 0)) (.cons 4 (.sy (.int 0 p.t)) (.cons 1 (cx) (.cons 0 (.ptr 0 0) .nil)))),(cd ({p2.f with now:=p2.f.now+1}:G2) (p2.f.L.length - p2.f.a) p2.f.s0.l.length p2.f.s1.l.length),24)) pS ng tC fun p3 r2=>mP (aL 0 (p3.t+(1:Int))) (WA ((.cons 4 (.sy (.int 0 (p3.t+(1:Int)))) (.cons 1 (cx) (.cons 0 (.ptr 0 0) .nil))),(cd r2.f (r2.f.L.length - r2.f.a) r2.f.s0.l.length r2.f.s1.l.length),24) (lW p) K)))) (K 2 .nil (cd p.f (p.f.L.length - p.f.a) p.f.s0.l.length p.f.s1.l.length) 24))) (by kernel_rfl) ?_
 dsimp only[mY]at hpre
 obtain⟨hinv,hP,y1,y2,y3,y4,y5,y6⟩:=hpre
 have hI:FInv p.f.s0 _ _ (p.f.L.drop p.f.a):=hinv.1
 obtain⟨a0,a1,a2,a3,⟨b1,c1,d1,e1,f1⟩⟩:=rC hinv
 refine iI (fun hc1=> ?_) (fun hc1=> ?_)
 refine aB (⟨p.f⟩:hZ) rfl (by(try dsimp only[fg]);first|exact⟨by assumption,by omega,by omega,by omega⟩|(obtain⟨z1,z2,z3,z4⟩:=jf hi0;have z:=ka hinv hi0;exact⟨z,by omega,by omega,by omega⟩)) fun r1 hi2=> ?_
 dsimp only[fi]at hi2
 refine aP (⟨r1.f⟩:fU) rfl (by(try dsimp only[ff]);first|exact⟨by assumption,by omega,by omega,by omega⟩|(obtain⟨z1,z2,z3,z4⟩:=jf hi2;have z:=ka hinv hi2;exact⟨z,by omega,by omega,by omega⟩)) ?_
 refine aB (⟨({r1.f with now:=r1.f.now+1}:G2),p.t,(0:Int)⟩:jQ) rfl (by(try dsimp only[ng]);obtain⟨z1,z2,z3,z4⟩:=jf hi2;obtain⟨v1,v2,v3⟩:=aek hinv hP (by omega) hi2;dsimp only[W2]at v3 ⊢;exact⟨v1,v2,by omega,by omega,by omega,by omega,by omega,by omega,by omega,by omega⟩) fun r2 hi3=> ?_
 dsimp only[tC]at hi3
 refine aQ ?_
 exact afT (q:=⟨r2.f,p.t+(1:Int)⟩) (by dsimp only[lW];omega) (by dsimp only[mY];obtain⟨v1,v2,v3,v4,v5,v6⟩:=hi3;exact⟨v1,v2,by omega,by omega,by omega,by omega,by omega,by omega⟩) hK rfl
 exact acd hK ⟨p.f⟩ (by dsimp only[yj]<;>(obtain⟨q1,q2⟩:=Prog.done hI hP (by omega) (by omega);exact⟨hinv,q1,by omega,⟨(q2 p.f.s1 (by simp)).1,congrArg List.length (q2 p.f.s1 (by simp)).1,(q2 p.f.s1 (by simp)).2⟩⟩))
theorem aeX:dp Tryz.prog 54 1 ov true 0 Mv:=by
 exact gD (lf:=600) bD (ay mS) (by rfl) pG lW EW (fun b j x h=>(bZ afd (fun h=>(by cases h)) h)) (fun S M nx K h=>by obtain⟨p,h⟩:=bJ h;exact⟨p,(ae h).1,(ae h).2⟩) (fun p K h=>adC p K (ae h).1 (ae h).2)
structure nM where
 f:G2
structure Jn where
 f:G2
def sg (p:nM) (r:Jn):Prop:=dH r.f∧r.f.s0.com=(r.f.s0.l.length:Int)∧r.f.s0.l.length≤80∧(r.f.s1.l=r.f.s0.l∧r.f.s1.l.length=r.f.s0.l.length∧r.f.s1.com=(r.f.s0.l.length:Int))
noncomputable def vS (p:nM):IE:=([.ptr 0 0,cx],(cd p.f (p.f.L.length - p.f.a) p.f.s0.l.length p.f.s1.l.length),24)
noncomputable def Ab (p:nM) (K:KE):Bool:=ah fun r:Jn=>iP (sg p r) (K (.tup []) (cd r.f (r.f.L.length - r.f.a) r.f.s0.l.length r.f.s1.l.length) 24) true
def pc (p:nM):Prop:=dH p.f∧0≤p.f.now∧p.f.now≤100000∧p.f.L.length≤200000∧p.f.s0.l.length≤80
theorem Yi {p:nM} {K:KE} (hK:Ab p K=true) (r:Jn) (h:sg p r):K (.tup []) (cd r.f (r.f.L.length - r.f.a) r.f.s0.l.length r.f.s1.l.length) 24=true:=aA h (au hK r)
theorem YO (p:nM) (K:KE) (hpre:pc p) (hK:Ab p K=true):(aY 1 (bg pr) ov 600 OB (vS p).1 (vS p).2.1 (vS p).2.2 K)=true:=by
 refine Eq.trans (b:=(bf (((.cons 4 (.sy (.int 0 0)) (.cons 1 (cx) (.cons 0 (.ptr 0 0) .nil))),(cd p.f (p.f.L.length - p.f.a) p.f.s0.l.length p.f.s1.l.length),24)) pG mY yj fun p1 r1=>K (.tup []) (cd r1.f (r1.f.L.length - r1.f.a) r1.f.s0.l.length r1.f.s1.l.length) 24)) (by kernel_rfl) ?_
 dsimp only[pc]at hpre
 obtain⟨hinv,y1,y2,y3,y4⟩:=hpre
 have hI:FInv p.f.s0 _ _ (p.f.L.drop p.f.a):=hinv.1
 obtain⟨a0,a1,a2,a3,⟨b1,c1,d1,e1,f1⟩⟩:=rC hinv
 refine aB (⟨p.f,(0:Int)⟩:jI) rfl (by(try dsimp only[mY]);exact⟨hinv,Prog.zero hI,by omega,by omega,by omega,by omega,by omega,by omega⟩) fun r1 hi1=> ?_
 dsimp only[yj]at hi1
 exact Yi hK ⟨r1.f⟩ (by dsimp only[sg]<;>assumption)
noncomputable def Eg:aM:=bn (fun us M=>Nat.beq (ca M 1) 2) (be vS (cm pc Ab)) Eh
theorem NX:aX Tryz.prog 15 1 Eg:=aD (cS (f:=15) (k:=1) (lp:=ov) (lf:=600) bD (ay mS) RY (by rfl) (fun b j x h=>(bZ aeX (fun h=>(by cases h)) h)) fun p K h=>YO p K (ae h).1 (ae h).2) NY
noncomputable def pq:=aZ pr 1 Eg 15 [(0,4),(1,1)]
theorem mR:aE Tryz.prog pq:=az NX mS
def MJ:XC:=tJ
def Mu:XC:=(.aft (.seq (.seq (g_ 3 [p_ 0 8 (m_ 4),p_ 1 9 (m_ 1),p_ 2 10 (.bin 3 0 (.t 8) (.t 9))]) (.cond (.t 10) .skip (.exit 2))) (.seq (.block 3 (.seq (.seq (g_ 1 [p_ 0 5 (.mv (i_ 0))]) (.block 4 (.loop [0,1,4,5,6,7,8,9,10,11,12,13,14,15,16,17,18,19,20,21,22,23,25,26,27,28,29,30,31,32,33,34,35,36,37,38,39,40,41,42,43,44,45,46,47,48,49,50,51,52] (.seq (.seq (g_ 7 [p_ 0 13 (m_ 5),p_ 1 14 (m_ 0),p_ 2 15 (n_ 14),p_ 3 16 (f_ 0 15),r_ 4 17 (l_ 16),p_ 5 18 (k_ 17),p_ 6 19 (.bin 3 0 (.t 13) (.t 18))]) (.cond (.t 19) .skip (.exit 4))) (.seq (.block 5 (g_ 3 [p_ 0 22 (m_ 0),p_ 1 23 (m_ 5),c_ 2 24 28 [.t 22,.t 23]])) (g_ 3 [p_ 0 20 (m_ 5),p_ 1 21 (.bin 0 0 (.t 20) (i_ 1)),p_ 2 5 (m_ 21)])))))) (.seq (g_ 1 [p_ 0 6 (.mv (i_ 0))]) (.block 6 (.pre [.can 1 [0,1,4,6],.up 6,.can 1 [0,1,4,6]] (.inv 1 MJ)))))) (g_ 3 [p_ 0 11 (m_ 4),p_ 1 12 (.bin 0 0 (.t 11) (i_ 1)),p_ 2 4 (m_ 12)]))) [(0,[.can 1 [0,1,4]]),(2,[.can 1 []])])
def OA:XF:=.mk 54 .none (.seq (g_ 1 [p_ 0 4 (.mv (i_ 0))]) (.block 2 (.pre [.can 1 [0,1,4],.up 4,.can 1 [0,1,4]] (.inv 0 Mu))))
theorem RX:aW Tryz.prog 15 OA=true:=by kernel_rfl
structure jP where
 f:G3
 t:Int
 i:Int
structure Ue where
 f:G3
def tB (p:jP) (r:Ue):Prop:=dD r.f∧PI3 (p.t+1) r.f∧(r.f.L.length:Int)≤200000+4000*p.t+803∧0≤r.f.now∧r.f.now≤100000+4*p.t+4∧r.f.s0.l.length≤80
noncomputable def pR (p:jP):IL:=((.cons 6 (.sy (.int 0 p.i)) (.cons 4 (.sy (.int 0 p.t)) (.cons 1 (cx) (.cons 0 (.ptr 0 0) .nil)))),(bP p.f (p.f.L.length - p.f.a) p.f.s0.l.length p.f.s1.l.length p.f.s2.l.length),34)
noncomputable def Ak (p:jP) (K:KC):Bool:=ah fun r:Ue=>iP (tB p r) (K 6 (.cons 4 (.sy (.int 0 p.t)) (.cons 1 (cx) (.cons 0 (.ptr 0 0) .nil))) (bP r.f (r.f.L.length - r.f.a) r.f.s0.l.length r.f.s1.l.length r.f.s2.l.length) 34) true
def nf (p:jP):Prop:=dD p.f∧WO p.t p.f∧0≤p.t∧p.t<20∧0≤p.i∧p.i+(W3 p.f:Int)≤3000∧(p.f.L.length:Int)+(W3 p.f:Int)≤200000+4000*p.t+803∧0≤p.f.now∧p.f.now≤100000+4*p.t+4∧p.f.s0.l.length≤80
theorem SQ {p:jP} {K:KC} (hK:Ak p K=true) (r:Ue) (h:tB p r):K 6 (.cons 4 (.sy (.int 0 p.t)) (.cons 1 (cx) (.cons 0 (.ptr 0 0) .nil))) (bP r.f (r.f.L.length - r.f.a) r.f.s0.l.length r.f.s1.l.length r.f.s2.l.length) 34=true:=aA h (au hK r)
noncomputable def Fe (p:jP) (K:KC):Bool:=ac (aF (nf p)) (Ak p K)
structure jH where
 f:G3
 t:Int
structure TS where
 f:G3
def yi (p:jH) (r:TS):Prop:=dD r.f∧r.f.s0.com=(r.f.s0.l.length:Int)∧r.f.s0.l.length≤80∧(r.f.s1.l=r.f.s0.l∧r.f.s1.l.length=r.f.s0.l.length∧r.f.s1.com=(r.f.s0.l.length:Int))∧(r.f.s2.l=r.f.s0.l∧r.f.s2.l.length=r.f.s0.l.length∧r.f.s2.com=(r.f.s0.l.length:Int))
noncomputable def pF (p:jH):IL:=((.cons 4 (.sy (.int 0 p.t)) (.cons 1 (cx) (.cons 0 (.ptr 0 0) .nil))),(bP p.f (p.f.L.length - p.f.a) p.f.s0.l.length p.f.s1.l.length p.f.s2.l.length),34)
noncomputable def zP (p:jH) (K:KC):Bool:=ah fun r:TS=>iP (yi p r) (K 2 .nil (bP r.f (r.f.L.length - r.f.a) r.f.s0.l.length r.f.s1.l.length r.f.s2.l.length) 34) true
def mX (p:jH):Prop:=dD p.f∧PI3 p.t p.f∧0≤p.t∧p.t≤20∧(p.f.L.length:Int)≤200000+4000*p.t∧0≤p.f.now∧p.f.now≤100000+4*p.t+0∧p.f.s0.l.length≤80
theorem acb {p:jH} {K:KC} (hK:zP p K=true) (r:TS) (h:yi p r):K 2 .nil (bP r.f (r.f.L.length - r.f.a) r.f.s0.l.length r.f.s1.l.length r.f.s2.l.length) 34=true:=aA h (au hK r)
noncomputable def EV (p:jH) (K:KC):Bool:=ac (aF (mX p)) (zP p K)
noncomputable def ou:gB:=fun j S M nx K=>(Bool.rec ((Bool.rec (false) (ax fun p:jH=>ac (aF ((S,M,nx)=pF p)) (EV p K)) (Nat.beq j 0))) (ax fun p:jP=>ac (aF ((S,M,nx)=pR p)) (Fe p K)) (Nat.beq j 1))
def ma (p:jP):Nat:=(3000 - p.i).toNat
noncomputable def WE (s:IL) (n:Nat) (K:KC):Bool:=ax fun q=>mP (s=pR q∧ma q<n) (Fe q K)
theorem afX {p q:jP} {K:KC} {s:IL} (hm:ma q<ma p) (hp:nf q) (hK:Ak q K=true) (e:s=pR q):WE s (ma p) K=true:=aH q (bT ⟨e,hm⟩ (bT hp hK))
theorem adR (p:jP) (K:KC) (hpre:nf p) (hK:Ak p K=true):(cC (bg pq) ou 600 MJ (pR p).1 (pR p).2.1 (pR p).2.2 (fun e S M nx=>Nat.casesOn e (ax fun q:jP=>ac (aF ((S,M,nx)=pR q∧ma q<ma p)) (Fe q K)) (fun e2=>K (Nat.succ e2) S M nx)))=true:=by
 refine Eq.trans (b:=(let z0:Bool:=(K 6 (.cons 4 (.sy (.int 0 p.t)) (.cons 1 (cx) (.cons 0 (.ptr 0 0) .nil))) (bP p.f (p.f.L.length - p.f.a) p.f.s0.l.length p.f.s1.l.length p.f.s2.l.length) 34);iP (p.i<(3000:Int)) (iP ((0:Int)<((p.f.L.length - p.f.a:Nat):Int)) (mP (0≤(0:Int)∧(0:Int)<((p.f.L.length - p.f.a:Nat):Int)) (mP ((p.f.a+0)<p.f.L.length) (ah fun x1:Fl=>iP (p.f.L[p.f.a+0]?=some x1) (mP (0≤(1:Int)∧(1:Int)≤((p.f.L.length - p.f.a:Nat):Int)∧((p.f.L.length - p.f.a:Nat):Int)≤((p.f.L.length - p.f.a:Nat):Int)) (bf (([.ptr 0 0,.agg [.sy (.int 0 x1.fr),.sy (.int 0 x1.to),.sy (.int 1 x1.k),aa,aa,bt,.sy (.int 3 x1.n),.sy (.int 3 x1.c),aw,aI,aI,aa,aJ,aw,aa,aa,aa,aa,aa,aa,aa,.nilS,aa,.str [],aa,aw,.nilS,aa,aJ,.bool false,.nilS,.sy (.imm x1.h 18 Ke x1.l ai),.nilS]],(bP ({p.f with a:=p.f.a+1,o:=(if p.f.cp=p.f.a then p.f.o else p.f.a*33)}:G3) ((p.f.L.length - p.f.a) - 1) p.f.s0.l.length p.f.s1.l.length p.f.s2.l.length),34)) uc kK gp fun p1 r1=>mP (aL 0 (p.i+(1:Int))) (WE ((.cons 6 (.sy (.int 0 (p.i+(1:Int)))) (.cons 4 (.sy (.int 0 p.t)) (.cons 1 (cx) (.cons 0 (.ptr 0 0) .nil)))),(bP r1.f (r1.f.L.length - r1.f.a) r1.f.s0.l.length r1.f.s1.l.length r1.f.s2.l.length),34) (ma p) K))) true))) z0) z0)) (by kernel_rfl) ?_
 dsimp only[nf]at hpre
 obtain⟨hinv,hD,y1,y2,y3,y4,y5,y6,y7,y8⟩:=hpre
 have hI:FInv p.f.s0 _ _ (p.f.L.drop p.f.a):=hinv.1
 obtain⟨a0,a1,a2,a3,⟨b1,c1,d1,e1,f1⟩,⟨b2,c2,d2,e2,f2⟩⟩:=pv hinv
 have wg:=ajM p.f
 refine iI (fun hc1=> ?_) (fun hc1=> ?_)
 refine iI (fun hc2=> ?_) (fun hc2=> ?_)
 refine gy (cZ ?_)
 refine aj (fun x1=> ?_)
 refine iI (fun hi3=> ?_) (fun _=>rfl)
 refine mI (by(first|omega|(simp[aC]<;>omega))) ?_
 refine aB (⟨({p.f with a:=p.f.a+1,o:=(if p.f.cp=p.f.a then p.f.o else p.f.a*33)}:G3),x1⟩:oP) rfl (by(try dsimp only[kK]);exact⟨EP hinv (Ly (L:=p.f.L) (a:=p.f.a) (by omega) hI.few),hI.msgs _ (gH (by assumption)),by omega,by omega,by omega⟩) fun r1 hi4=> ?_
 dsimp only[gp]at hi4
 refine aQ ?_
 exact afX (q:=⟨r1.f,p.t,p.i+(1:Int)⟩) (by dsimp only[ma];omega) (by dsimp only[nf];obtain⟨v1,v2,v3,v4,v5,v6⟩:=aj9 hinv hD (by assumption) rfl hi4;have v7:=congrArg List.length v4;exact⟨v1,v2,by omega,by omega,by omega,by omega,by omega,by omega,by omega,by omega⟩) hK rfl
 exact SQ hK ⟨p.f⟩ (by dsimp only[tB]<;>(first|(exfalso;omega)|exact⟨hinv,Zf hinv hD (by omega),by omega,by omega,by omega,by omega⟩))
 exact SQ hK ⟨p.f⟩ (by dsimp only[tB]<;>(first|(exfalso;omega)|exact⟨hinv,Zf hinv hD (by omega),by omega,by omega,by omega,by omega⟩))
theorem afc:dp Tryz.prog 54 1 ou true 1 MJ:=by
 exact gD (lf:=600) bD (ay mR) (by rfl) pR ma Fe (fun b j x h=>by cases h) (fun S M nx K h=>by obtain⟨p,h⟩:=bJ h;exact⟨p,(ae h).1,(ae h).2⟩) (fun p K h=>adR p K (ae h).1 (ae h).2)
def lV (p:jH):Nat:=(20 - p.t).toNat
noncomputable def Wz (s:IL) (n:Nat) (K:KC):Bool:=ax fun q=>mP (s=pF q∧lV q<n) (EV q K)
theorem afS {p q:jH} {K:KC} {s:IL} (hm:lV q<lV p) (hp:mX q) (hK:zP q K=true) (e:s=pF q):Wz s (lV p) K=true:=aH q (bT ⟨e,hm⟩ (bT hp hK))
theorem adB (p:jH) (K:KC) (hpre:mX p) (hK:zP p K=true):(cC (bg pq) ou 600 Mu (pF p).1 (pF p).2.1 (pF p).2.2 (fun e S M nx=>Nat.casesOn e (ax fun q:jH=>ac (aF ((S,M,nx)=pF q∧lV q<lV p)) (EV q K)) (fun e2=>K (Nat.succ e2) S M nx)))=true:=by
 refine Eq.trans (b:=(iP (p.t<(20:Int)) (bf (([.ptr 0 0,cE],(bP p.f (p.f.L.length - p.f.a) p.f.s0.l.length p.f.s1.l.length p.f.s2.l.length),34)) lC fe eE fun p1 r1=>ax fun p2:fT=>mP (([.ptr 0 0,sS],(bP r1.f (r1.f.L.length - r1.f.a) r1.f.s0.l.length r1.f.s1.l.length r1.f.s2.l.length),34)=lB p2) (mP (fc p2) (ax fun p3:fS=>mP (([.ptr 0 0,nw],(bP ({p2.f with now:=p2.f.now+1}:G3) (p2.f.L.length - p2.f.a) p2.f.s0.l.length p2.f.s1.l.length p2.f.s2.l.length),34)=lA p3) (mP (fb p3) (bf (((.cons 6 (.sy (.int 0 0)) (.cons 4 (.sy (.int 0 p.t)) (.cons 1 (cx) (.cons 0 (.ptr 0 0) .nil)))),(bP ({p3.f with now:=p3.f.now+1}:G3) (p3.f.L.length - p3.f.a) p3.f.s0.l.length p3.f.s1.l.length p3.f.s2.l.length),34)) pR nf tB fun p4 r2=>mP (aL 0 (p4.t+(1:Int))) (Wz ((.cons 4 (.sy (.int 0 (p4.t+(1:Int)))) (.cons 1 (cx) (.cons 0 (.ptr 0 0) .nil))),(bP r2.f (r2.f.L.length - r2.f.a) r2.f.s0.l.length r2.f.s1.l.length r2.f.s2.l.length),34) (lV p) K)))))) (K 2 .nil (bP p.f (p.f.L.length - p.f.a) p.f.s0.l.length p.f.s1.l.length p.f.s2.l.length) 34))) (by kernel_rfl) ?_
 dsimp only[mX]at hpre
 obtain⟨hinv,hP,y1,y2,y3,y4,y5,y6⟩:=hpre
 have hI:FInv p.f.s0 _ _ (p.f.L.drop p.f.a):=hinv.1
 obtain⟨a0,a1,a2,a3,⟨b1,c1,d1,e1,f1⟩,⟨b2,c2,d2,e2,f2⟩⟩:=pv hinv
 refine iI (fun hc1=> ?_) (fun hc1=> ?_)
 refine aB (⟨p.f⟩:hX) rfl (by(try dsimp only[fe]);first|exact⟨by assumption,by omega,by omega,by omega⟩|(obtain⟨z1,z2,z3,z4⟩:=iE hi0;have z:=jg hinv hi0;exact⟨z,by omega,by omega,by omega⟩)) fun r1 hi2=> ?_
 dsimp only[eE]at hi2
 refine aP (⟨r1.f⟩:fT) rfl (by(try dsimp only[fc]);first|exact⟨by assumption,by omega,by omega,by omega⟩|(obtain⟨z1,z2,z3,z4⟩:=iE hi2;have z:=jg hinv hi2;exact⟨z,by omega,by omega,by omega⟩)) ?_
 refine aP (⟨({r1.f with now:=r1.f.now+1}:G3)⟩:fS) rfl (by(try dsimp only[fb]);first|exact⟨by assumption,by omega,by omega,by omega⟩|(obtain⟨z1,z2,z3,z4⟩:=iE hi2;have z:=jg hinv hi2;exact⟨z,by omega,by omega,by omega⟩)) ?_
 refine aB (⟨({({r1.f with now:=r1.f.now+1}:G3) with now:=(r1.f.now+1)+1}:G3),p.t,(0:Int)⟩:jP) rfl (by(try dsimp only[nf]);obtain⟨z1,z2,z3,z4⟩:=iE hi2;obtain⟨v1,v2,v3⟩:=aej hinv hP (by omega) hi2;dsimp only[W3]at v3 ⊢;exact⟨v1,v2,by omega,by omega,by omega,by omega,by omega,by omega,by omega,by omega⟩) fun r2 hi3=> ?_
 dsimp only[tB]at hi3
 refine aQ ?_
 exact afS (q:=⟨r2.f,p.t+(1:Int)⟩) (by dsimp only[lV];omega) (by dsimp only[mX];obtain⟨v1,v2,v3,v4,v5,v6⟩:=hi3;exact⟨v1,v2,by omega,by omega,by omega,by omega,by omega,by omega⟩) hK rfl
 exact acb hK ⟨p.f⟩ (by dsimp only[yi]<;>(obtain⟨q1,q2⟩:=Prog.done hI hP (by omega) (by omega);exact⟨hinv,q1,by omega,⟨(q2 p.f.s1 (by simp)).1,congrArg List.length (q2 p.f.s1 (by simp)).1,(q2 p.f.s1 (by simp)).2⟩,⟨(q2 p.f.s2 (by simp)).1,congrArg List.length (q2 p.f.s2 (by simp)).1,(q2 p.f.s2 (by simp)).2⟩⟩))
theorem aeW:dp Tryz.prog 54 1 ou true 0 Mu:=by
 exact gD (lf:=600) bD (ay mR) (by rfl) pF lV EV (fun b j x h=>(bZ afc (fun h=>(by cases h)) h)) (fun S M nx K h=>by obtain⟨p,h⟩:=bJ h;exact⟨p,(ae h).1,(ae h).2⟩) (fun p K h=>adB p K (ae h).1 (ae h).2)
structure nL where
 f:G3
structure Jm where
 f:G3
def rZ (p:nL) (r:Jm):Prop:=dD r.f∧r.f.s0.com=(r.f.s0.l.length:Int)∧r.f.s0.l.length≤80∧(r.f.s1.l=r.f.s0.l∧r.f.s1.l.length=r.f.s0.l.length∧r.f.s1.com=(r.f.s0.l.length:Int))∧(r.f.s2.l=r.f.s0.l∧r.f.s2.l.length=r.f.s0.l.length∧r.f.s2.com=(r.f.s0.l.length:Int))
noncomputable def vR (p:nL):IE:=([.ptr 0 0,cx],(bP p.f (p.f.L.length - p.f.a) p.f.s0.l.length p.f.s1.l.length p.f.s2.l.length),34)
noncomputable def Aa (p:nL) (K:KE):Bool:=ah fun r:Jm=>iP (rZ p r) (K (.tup []) (bP r.f (r.f.L.length - r.f.a) r.f.s0.l.length r.f.s1.l.length r.f.s2.l.length) 34) true
def pb (p:nL):Prop:=dD p.f∧0≤p.f.now∧p.f.now≤100000∧p.f.L.length≤200000∧p.f.s0.l.length≤80
theorem Yh {p:nL} {K:KE} (hK:Aa p K=true) (r:Jm) (h:rZ p r):K (.tup []) (bP r.f (r.f.L.length - r.f.a) r.f.s0.l.length r.f.s1.l.length r.f.s2.l.length) 34=true:=aA h (au hK r)
theorem YN (p:nL) (K:KE) (hpre:pb p) (hK:Aa p K=true):(aY 1 (bg pq) ou 600 OA (vR p).1 (vR p).2.1 (vR p).2.2 K)=true:=by
 refine Eq.trans (b:=(bf (((.cons 4 (.sy (.int 0 0)) (.cons 1 (cx) (.cons 0 (.ptr 0 0) .nil))),(bP p.f (p.f.L.length - p.f.a) p.f.s0.l.length p.f.s1.l.length p.f.s2.l.length),34)) pF mX yi fun p1 r1=>K (.tup []) (bP r1.f (r1.f.L.length - r1.f.a) r1.f.s0.l.length r1.f.s1.l.length r1.f.s2.l.length) 34)) (by kernel_rfl) ?_
 dsimp only[pb]at hpre
 obtain⟨hinv,y1,y2,y3,y4⟩:=hpre
 have hI:FInv p.f.s0 _ _ (p.f.L.drop p.f.a):=hinv.1
 obtain⟨a0,a1,a2,a3,⟨b1,c1,d1,e1,f1⟩,⟨b2,c2,d2,e2,f2⟩⟩:=pv hinv
 refine aB (⟨p.f,(0:Int)⟩:jH) rfl (by(try dsimp only[mX]);exact⟨hinv,Prog.zero hI,by omega,by omega,by omega,by omega,by omega,by omega⟩) fun r1 hi1=> ?_
 dsimp only[yi]at hi1
 exact Yh hK ⟨r1.f⟩ (by dsimp only[rZ]<;>assumption)
noncomputable def Ef:aM:=bn (fun us M=>Nat.beq (ca M 1) 3) (be vR (cm pb Aa)) Eg
theorem NW:aX Tryz.prog 15 1 Ef:=aD (cS (f:=15) (k:=1) (lp:=ou) (lf:=600) bD (ay mR) RX (by rfl) (fun b j x h=>(bZ aeW (fun h=>(by cases h)) h)) fun p K h=>YN p K (ae h).1 (ae h).2) NX
noncomputable def pp:=aZ pq 1 Ef 15 [(0,4),(1,1)]
theorem mQ:aE Tryz.prog pp:=az NW mR
def MI:XC:=tJ
def Mt:XC:=(.aft (.seq (.seq (g_ 3 [p_ 0 8 (m_ 4),p_ 1 9 (m_ 1),p_ 2 10 (.bin 3 0 (.t 8) (.t 9))]) (.cond (.t 10) .skip (.exit 2))) (.seq (.block 3 (.seq (.seq (g_ 1 [p_ 0 5 (.mv (i_ 0))]) (.block 4 (.loop [0,1,4,5,6,7,8,9,10,11,12,13,14,15,16,17,18,19,20,21,22,23,25,26,27,28,29,30,31,32,33,34,35,36,37,38,39,40,41,42,43,44,45,46,47,48,49,50,51,52] (.seq (.seq (g_ 7 [p_ 0 13 (m_ 5),p_ 1 14 (m_ 0),p_ 2 15 (n_ 14),p_ 3 16 (f_ 0 15),r_ 4 17 (l_ 16),p_ 5 18 (k_ 17),p_ 6 19 (.bin 3 0 (.t 13) (.t 18))]) (.cond (.t 19) .skip (.exit 4))) (.seq (.block 5 (g_ 3 [p_ 0 22 (m_ 0),p_ 1 23 (m_ 5),c_ 2 24 28 [.t 22,.t 23]])) (g_ 3 [p_ 0 20 (m_ 5),p_ 1 21 (.bin 0 0 (.t 20) (i_ 1)),p_ 2 5 (m_ 21)])))))) (.seq (g_ 1 [p_ 0 6 (.mv (i_ 0))]) (.block 6 (.pre [.can 1 [0,1,4,6],.up 6,.can 1 [0,1,4,6]] (.inv 1 MI)))))) (g_ 3 [p_ 0 11 (m_ 4),p_ 1 12 (.bin 0 0 (.t 11) (i_ 1)),p_ 2 4 (m_ 12)]))) [(0,[.can 1 [0,1,4]]),(2,[.can 1 []])])
def Oz:XF:=.mk 54 .none (.seq (g_ 1 [p_ 0 4 (.mv (i_ 0))]) (.block 2 (.pre [.can 1 [0,1,4],.up 4,.can 1 [0,1,4]] (.inv 0 Mt))))
theorem RW:aW Tryz.prog 15 Oz=true:=by kernel_rfl
structure jO where
 f:G4
 t:Int
 i:Int
structure Ud where
 f:G4
def tA (p:jO) (r:Ud):Prop:=dy r.f∧PI4 (p.t+1) r.f∧(r.f.L.length:Int)≤200000+4000*p.t+803∧0≤r.f.now∧r.f.now≤100000+4*p.t+4∧r.f.s0.l.length≤80
noncomputable def pQ (p:jO):IL:=((.cons 6 (.sy (.int 0 p.i)) (.cons 4 (.sy (.int 0 p.t)) (.cons 1 (cx) (.cons 0 (.ptr 0 0) .nil)))),(bG p.f (p.f.L.length - p.f.a) p.f.s0.l.length p.f.s1.l.length p.f.s2.l.length p.f.s3.l.length),44)
noncomputable def Aj (p:jO) (K:KC):Bool:=ah fun r:Ud=>iP (tA p r) (K 6 (.cons 4 (.sy (.int 0 p.t)) (.cons 1 (cx) (.cons 0 (.ptr 0 0) .nil))) (bG r.f (r.f.L.length - r.f.a) r.f.s0.l.length r.f.s1.l.length r.f.s2.l.length r.f.s3.l.length) 44) true
def nc (p:jO):Prop:=dy p.f∧WN p.t p.f∧0≤p.t∧p.t<20∧0≤p.i∧p.i+(W4 p.f:Int)≤3000∧(p.f.L.length:Int)+(W4 p.f:Int)≤200000+4000*p.t+803∧0≤p.f.now∧p.f.now≤100000+4*p.t+4∧p.f.s0.l.length≤80
theorem SP {p:jO} {K:KC} (hK:Aj p K=true) (r:Ud) (h:tA p r):K 6 (.cons 4 (.sy (.int 0 p.t)) (.cons 1 (cx) (.cons 0 (.ptr 0 0) .nil))) (bG r.f (r.f.L.length - r.f.a) r.f.s0.l.length r.f.s1.l.length r.f.s2.l.length r.f.s3.l.length) 44=true:=aA h (au hK r)
noncomputable def Fc (p:jO) (K:KC):Bool:=ac (aF (nc p)) (Aj p K)
structure jG where
 f:G4
 t:Int
structure TR where
 f:G4
def yh (p:jG) (r:TR):Prop:=dy r.f∧r.f.s0.com=(r.f.s0.l.length:Int)∧r.f.s0.l.length≤80∧(r.f.s1.l=r.f.s0.l∧r.f.s1.l.length=r.f.s0.l.length∧r.f.s1.com=(r.f.s0.l.length:Int))∧(r.f.s2.l=r.f.s0.l∧r.f.s2.l.length=r.f.s0.l.length∧r.f.s2.com=(r.f.s0.l.length:Int))∧(r.f.s3.l=r.f.s0.l∧r.f.s3.l.length=r.f.s0.l.length∧r.f.s3.com=(r.f.s0.l.length:Int))
noncomputable def pE (p:jG):IL:=((.cons 4 (.sy (.int 0 p.t)) (.cons 1 (cx) (.cons 0 (.ptr 0 0) .nil))),(bG p.f (p.f.L.length - p.f.a) p.f.s0.l.length p.f.s1.l.length p.f.s2.l.length p.f.s3.l.length),44)
noncomputable def zO (p:jG) (K:KC):Bool:=ah fun r:TR=>iP (yh p r) (K 2 .nil (bG r.f (r.f.L.length - r.f.a) r.f.s0.l.length r.f.s1.l.length r.f.s2.l.length r.f.s3.l.length) 44) true
def mW (p:jG):Prop:=dy p.f∧PI4 p.t p.f∧0≤p.t∧p.t≤20∧(p.f.L.length:Int)≤200000+4000*p.t∧0≤p.f.now∧p.f.now≤100000+4*p.t+0∧p.f.s0.l.length≤80
theorem aca {p:jG} {K:KC} (hK:zO p K=true) (r:TR) (h:yh p r):K 2 .nil (bG r.f (r.f.L.length - r.f.a) r.f.s0.l.length r.f.s1.l.length r.f.s2.l.length r.f.s3.l.length) 44=true:=aA h (au hK r)
noncomputable def EU (p:jG) (K:KC):Bool:=ac (aF (mW p)) (zO p K)
noncomputable def ot:gB:=fun j S M nx K=>(Bool.rec ((Bool.rec (false) (ax fun p:jG=>ac (aF ((S,M,nx)=pE p)) (EU p K)) (Nat.beq j 0))) (ax fun p:jO=>ac (aF ((S,M,nx)=pQ p)) (Fc p K)) (Nat.beq j 1))
def lZ (p:jO):Nat:=(3000 - p.i).toNat
noncomputable def WD (s:IL) (n:Nat) (K:KC):Bool:=ax fun q=>mP (s=pQ q∧lZ q<n) (Fc q K)
theorem afW {p q:jO} {K:KC} {s:IL} (hm:lZ q<lZ p) (hp:nc q) (hK:Aj q K=true) (e:s=pQ q):WD s (lZ p) K=true:=aH q (bT ⟨e,hm⟩ (bT hp hK))
theorem adQ (p:jO) (K:KC) (hpre:nc p) (hK:Aj p K=true):(cC (bg pp) ot 600 MI (pQ p).1 (pQ p).2.1 (pQ p).2.2 (fun e S M nx=>Nat.casesOn e (ax fun q:jO=>ac (aF ((S,M,nx)=pQ q∧lZ q<lZ p)) (Fc q K)) (fun e2=>K (Nat.succ e2) S M nx)))=true:=by
 refine Eq.trans (b:=(let z0:Bool:=(K 6 (.cons 4 (.sy (.int 0 p.t)) (.cons 1 (cx) (.cons 0 (.ptr 0 0) .nil))) (bG p.f (p.f.L.length - p.f.a) p.f.s0.l.length p.f.s1.l.length p.f.s2.l.length p.f.s3.l.length) 44);iP (p.i<(3000:Int)) (iP ((0:Int)<((p.f.L.length - p.f.a:Nat):Int)) (mP (0≤(0:Int)∧(0:Int)<((p.f.L.length - p.f.a:Nat):Int)) (mP ((p.f.a+0)<p.f.L.length) (ah fun x1:Fl=>iP (p.f.L[p.f.a+0]?=some x1) (mP (0≤(1:Int)∧(1:Int)≤((p.f.L.length - p.f.a:Nat):Int)∧((p.f.L.length - p.f.a:Nat):Int)≤((p.f.L.length - p.f.a:Nat):Int)) (bf (([.ptr 0 0,.agg [.sy (.int 0 x1.fr),.sy (.int 0 x1.to),.sy (.int 1 x1.k),aa,aa,bt,.sy (.int 3 x1.n),.sy (.int 3 x1.c),aw,aI,aI,aa,aJ,aw,aa,aa,aa,aa,aa,aa,aa,.nilS,aa,.str [],aa,aw,.nilS,aa,aJ,.bool false,.nilS,.sy (.imm x1.h 18 Ke x1.l ai),.nilS]],(bG ({p.f with a:=p.f.a+1,o:=(if p.f.cp=p.f.a then p.f.o else p.f.a*33)}:G4) ((p.f.L.length - p.f.a) - 1) p.f.s0.l.length p.f.s1.l.length p.f.s2.l.length p.f.s3.l.length),44)) ub kJ eR fun p1 r1=>mP (aL 0 (p.i+(1:Int))) (WD ((.cons 6 (.sy (.int 0 (p.i+(1:Int)))) (.cons 4 (.sy (.int 0 p.t)) (.cons 1 (cx) (.cons 0 (.ptr 0 0) .nil)))),(bG r1.f (r1.f.L.length - r1.f.a) r1.f.s0.l.length r1.f.s1.l.length r1.f.s2.l.length r1.f.s3.l.length),44) (lZ p) K))) true))) z0) z0)) (by kernel_rfl) ?_
 dsimp only[nc]at hpre
 obtain⟨hinv,hD,y1,y2,y3,y4,y5,y6,y7,y8⟩:=hpre
 have hI:FInv p.f.s0 _ _ (p.f.L.drop p.f.a):=hinv.1
 obtain⟨a0,a1,a2,a3,⟨b1,c1,d1,e1,f1⟩,⟨b2,c2,d2,e2,f2⟩,⟨b3,c3,d3,e3,f3⟩⟩:=mU hinv
 have wg:=ajL p.f
 refine iI (fun hc1=> ?_) (fun hc1=> ?_)
 refine iI (fun hc2=> ?_) (fun hc2=> ?_)
 refine gy (cZ ?_)
 refine aj (fun x1=> ?_)
 refine iI (fun hi3=> ?_) (fun _=>rfl)
 refine mI (by(first|omega|(simp[aC]<;>omega))) ?_
 refine aB (⟨({p.f with a:=p.f.a+1,o:=(if p.f.cp=p.f.a then p.f.o else p.f.a*33)}:G4),x1⟩:oO) rfl (by(try dsimp only[kJ]);exact⟨EO hinv (Ly (L:=p.f.L) (a:=p.f.a) (by omega) hI.few),hI.msgs _ (gH (by assumption)),by omega,by omega,by omega⟩) fun r1 hi4=> ?_
 dsimp only[eR]at hi4
 refine aQ ?_
 exact afW (q:=⟨r1.f,p.t,p.i+(1:Int)⟩) (by dsimp only[lZ];omega) (by dsimp only[nc];obtain⟨v1,v2,v3,v4,v5,v6⟩:=aj8 hinv hD (by assumption) rfl hi4;have v7:=congrArg List.length v4;exact⟨v1,v2,by omega,by omega,by omega,by omega,by omega,by omega,by omega,by omega⟩) hK rfl
 exact SP hK ⟨p.f⟩ (by dsimp only[tA]<;>(first|(exfalso;omega)|exact⟨hinv,Ze hinv hD (by omega),by omega,by omega,by omega,by omega⟩))
 exact SP hK ⟨p.f⟩ (by dsimp only[tA]<;>(first|(exfalso;omega)|exact⟨hinv,Ze hinv hD (by omega),by omega,by omega,by omega,by omega⟩))
theorem afb:dp Tryz.prog 54 1 ot true 1 MI:=by
 exact gD (lf:=600) bD (ay mQ) (by rfl) pQ lZ Fc (fun b j x h=>by cases h) (fun S M nx K h=>by obtain⟨p,h⟩:=bJ h;exact⟨p,(ae h).1,(ae h).2⟩) (fun p K h=>adQ p K (ae h).1 (ae h).2)
def lU (p:jG):Nat:=(20 - p.t).toNat
noncomputable def Wy (s:IL) (n:Nat) (K:KC):Bool:=ax fun q=>mP (s=pE q∧lU q<n) (EU q K)
theorem afR {p q:jG} {K:KC} {s:IL} (hm:lU q<lU p) (hp:mW q) (hK:zO q K=true) (e:s=pE q):Wy s (lU p) K=true:=aH q (bT ⟨e,hm⟩ (bT hp hK))
theorem adA (p:jG) (K:KC) (hpre:mW p) (hK:zO p K=true):(cC (bg pp) ot 600 Mt (pE p).1 (pE p).2.1 (pE p).2.2 (fun e S M nx=>Nat.casesOn e (ax fun q:jG=>ac (aF ((S,M,nx)=pE q∧lU q<lU p)) (EU q K)) (fun e2=>K (Nat.succ e2) S M nx)))=true:=by
 refine Eq.trans (b:=(iP (p.t<(20:Int)) (bf (([.ptr 0 0,cE],(bG p.f (p.f.L.length - p.f.a) p.f.s0.l.length p.f.s1.l.length p.f.s2.l.length p.f.s3.l.length),44)) lz eZ eg fun p1 r1=>ax fun p2:fR=>mP (([.ptr 0 0,sS],(bG r1.f (r1.f.L.length - r1.f.a) r1.f.s0.l.length r1.f.s1.l.length r1.f.s2.l.length r1.f.s3.l.length),44)=ly p2) (mP (eY p2) (ax fun p3:fQ=>mP (([.ptr 0 0,nw],(bG ({p2.f with now:=p2.f.now+1}:G4) (p2.f.L.length - p2.f.a) p2.f.s0.l.length p2.f.s1.l.length p2.f.s2.l.length p2.f.s3.l.length),44)=lx p3) (mP (eX p3) (ax fun p4:fO=>mP (([.ptr 0 0,XM],(bG ({p3.f with now:=p3.f.now+1}:G4) (p3.f.L.length - p3.f.a) p3.f.s0.l.length p3.f.s1.l.length p3.f.s2.l.length p3.f.s3.l.length),44)=lw p4) (mP (eW p4) (bf (((.cons 6 (.sy (.int 0 0)) (.cons 4 (.sy (.int 0 p.t)) (.cons 1 (cx) (.cons 0 (.ptr 0 0) .nil)))),(bG ({p4.f with now:=p4.f.now+1}:G4) (p4.f.L.length - p4.f.a) p4.f.s0.l.length p4.f.s1.l.length p4.f.s2.l.length p4.f.s3.l.length),44)) pQ nc tA fun p5 r2=>mP (aL 0 (p5.t+(1:Int))) (Wy ((.cons 4 (.sy (.int 0 (p5.t+(1:Int)))) (.cons 1 (cx) (.cons 0 (.ptr 0 0) .nil))),(bG r2.f (r2.f.L.length - r2.f.a) r2.f.s0.l.length r2.f.s1.l.length r2.f.s2.l.length r2.f.s3.l.length),44) (lU p) K)))))))) (K 2 .nil (bG p.f (p.f.L.length - p.f.a) p.f.s0.l.length p.f.s1.l.length p.f.s2.l.length p.f.s3.l.length) 44))) (by kernel_rfl) ?_
 dsimp only[mW]at hpre
 obtain⟨hinv,hP,y1,y2,y3,y4,y5,y6⟩:=hpre
 have hI:FInv p.f.s0 _ _ (p.f.L.drop p.f.a):=hinv.1
 obtain⟨a0,a1,a2,a3,⟨b1,c1,d1,e1,f1⟩,⟨b2,c2,d2,e2,f2⟩,⟨b3,c3,d3,e3,f3⟩⟩:=mU hinv
 refine iI (fun hc1=> ?_) (fun hc1=> ?_)
 refine aB (⟨p.f⟩:hU) rfl (by(try dsimp only[eZ]);first|exact⟨by assumption,by omega,by omega,by omega⟩|(obtain⟨z1,z2,z3,z4⟩:=ib hi0;have z:=iF hinv hi0;exact⟨z,by omega,by omega,by omega⟩)) fun r1 hi2=> ?_
 dsimp only[eg]at hi2
 refine aP (⟨r1.f⟩:fR) rfl (by(try dsimp only[eY]);first|exact⟨by assumption,by omega,by omega,by omega⟩|(obtain⟨z1,z2,z3,z4⟩:=ib hi2;have z:=iF hinv hi2;exact⟨z,by omega,by omega,by omega⟩)) ?_
 refine aP (⟨({r1.f with now:=r1.f.now+1}:G4)⟩:fQ) rfl (by(try dsimp only[eX]);first|exact⟨by assumption,by omega,by omega,by omega⟩|(obtain⟨z1,z2,z3,z4⟩:=ib hi2;have z:=iF hinv hi2;exact⟨z,by omega,by omega,by omega⟩)) ?_
 refine aP (⟨({({r1.f with now:=r1.f.now+1}:G4) with now:=(r1.f.now+1)+1}:G4)⟩:fO) rfl (by(try dsimp only[eW]);first|exact⟨by assumption,by omega,by omega,by omega⟩|(obtain⟨z1,z2,z3,z4⟩:=ib hi2;have z:=iF hinv hi2;exact⟨z,by omega,by omega,by omega⟩)) ?_
 refine aB (⟨({({({r1.f with now:=r1.f.now+1}:G4) with now:=(r1.f.now+1)+1}:G4) with now:=((r1.f.now+1)+1)+1}:G4),p.t,(0:Int)⟩:jO) rfl (by(try dsimp only[nc]);obtain⟨z1,z2,z3,z4⟩:=ib hi2;obtain⟨v1,v2,v3⟩:=aei hinv hP (by omega) hi2;dsimp only[W4]at v3 ⊢;exact⟨v1,v2,by omega,by omega,by omega,by omega,by omega,by omega,by omega,by omega⟩) fun r2 hi3=> ?_
 dsimp only[tA]at hi3
 refine aQ ?_
 exact afR (q:=⟨r2.f,p.t+(1:Int)⟩) (by dsimp only[lU];omega) (by dsimp only[mW];obtain⟨v1,v2,v3,v4,v5,v6⟩:=hi3;exact⟨v1,v2,by omega,by omega,by omega,by omega,by omega,by omega⟩) hK rfl
 exact aca hK ⟨p.f⟩ (by dsimp only[yh]<;>(obtain⟨q1,q2⟩:=Prog.done hI hP (by omega) (by omega);exact⟨hinv,q1,by omega,⟨(q2 p.f.s1 (by simp)).1,congrArg List.length (q2 p.f.s1 (by simp)).1,(q2 p.f.s1 (by simp)).2⟩,⟨(q2 p.f.s2 (by simp)).1,congrArg List.length (q2 p.f.s2 (by simp)).1,(q2 p.f.s2 (by simp)).2⟩,⟨(q2 p.f.s3 (by simp)).1,congrArg List.length (q2 p.f.s3 (by simp)).1,(q2 p.f.s3 (by simp)).2⟩⟩))
theorem aeV:dp Tryz.prog 54 1 ot true 0 Mt:=by
 exact gD (lf:=600) bD (ay mQ) (by rfl) pE lU EU (fun b j x h=>(bZ afb (fun h=>(by cases h)) h)) (fun S M nx K h=>by obtain⟨p,h⟩:=bJ h;exact⟨p,(ae h).1,(ae h).2⟩) (fun p K h=>adA p K (ae h).1 (ae h).2)
structure nK where
 f:G4
structure Jl where
 f:G4
def rY (p:nK) (r:Jl):Prop:=dy r.f∧r.f.s0.com=(r.f.s0.l.length:Int)∧r.f.s0.l.length≤80∧(r.f.s1.l=r.f.s0.l∧r.f.s1.l.length=r.f.s0.l.length∧r.f.s1.com=(r.f.s0.l.length:Int))∧(r.f.s2.l=r.f.s0.l∧r.f.s2.l.length=r.f.s0.l.length∧r.f.s2.com=(r.f.s0.l.length:Int))∧(r.f.s3.l=r.f.s0.l∧r.f.s3.l.length=r.f.s0.l.length∧r.f.s3.com=(r.f.s0.l.length:Int))
noncomputable def vQ (p:nK):IE:=([.ptr 0 0,cx],(bG p.f (p.f.L.length - p.f.a) p.f.s0.l.length p.f.s1.l.length p.f.s2.l.length p.f.s3.l.length),44)
noncomputable def zZ (p:nK) (K:KE):Bool:=ah fun r:Jl=>iP (rY p r) (K (.tup []) (bG r.f (r.f.L.length - r.f.a) r.f.s0.l.length r.f.s1.l.length r.f.s2.l.length r.f.s3.l.length) 44) true
def pa (p:nK):Prop:=dy p.f∧0≤p.f.now∧p.f.now≤100000∧p.f.L.length≤200000∧p.f.s0.l.length≤80
theorem Yg {p:nK} {K:KE} (hK:zZ p K=true) (r:Jl) (h:rY p r):K (.tup []) (bG r.f (r.f.L.length - r.f.a) r.f.s0.l.length r.f.s1.l.length r.f.s2.l.length r.f.s3.l.length) 44=true:=aA h (au hK r)
theorem YM (p:nK) (K:KE) (hpre:pa p) (hK:zZ p K=true):(aY 1 (bg pp) ot 600 Oz (vQ p).1 (vQ p).2.1 (vQ p).2.2 K)=true:=by
 refine Eq.trans (b:=(bf (((.cons 4 (.sy (.int 0 0)) (.cons 1 (cx) (.cons 0 (.ptr 0 0) .nil))),(bG p.f (p.f.L.length - p.f.a) p.f.s0.l.length p.f.s1.l.length p.f.s2.l.length p.f.s3.l.length),44)) pE mW yh fun p1 r1=>K (.tup []) (bG r1.f (r1.f.L.length - r1.f.a) r1.f.s0.l.length r1.f.s1.l.length r1.f.s2.l.length r1.f.s3.l.length) 44)) (by kernel_rfl) ?_
 dsimp only[pa]at hpre
 obtain⟨hinv,y1,y2,y3,y4⟩:=hpre
 have hI:FInv p.f.s0 _ _ (p.f.L.drop p.f.a):=hinv.1
 obtain⟨a0,a1,a2,a3,⟨b1,c1,d1,e1,f1⟩,⟨b2,c2,d2,e2,f2⟩,⟨b3,c3,d3,e3,f3⟩⟩:=mU hinv
 refine aB (⟨p.f,(0:Int)⟩:jG) rfl (by(try dsimp only[mW]);exact⟨hinv,Prog.zero hI,by omega,by omega,by omega,by omega,by omega,by omega⟩) fun r1 hi1=> ?_
 dsimp only[yh]at hi1
 exact Yg hK ⟨r1.f⟩ (by dsimp only[rY]<;>assumption)
noncomputable def ON:aM:=bn (fun us M=>Nat.beq (ca M 1) 4) (be vQ (cm pa zZ)) Ef
theorem Zt:aX Tryz.prog 15 1 ON:=aD (cS (f:=15) (k:=1) (lp:=ot) (lf:=600) bD (ay mQ) RW (by rfl) (fun b j x h=>(bZ aeV (fun h=>(by cases h)) h)) fun p K h=>YM p K (ae h).1 (ae h).2) NW
noncomputable def Ki:=aZ pp 1 ON 15 [(0,4),(1,1)]
theorem OW:aE Tryz.prog Ki:=az Zt mQ
end Go.Proofs.Tryz
namespace Go.Proofs.Tryz
open Go.Proofs.YtjhpjjbnojbikaaGreat (gw gN ii jj kU oS)
open Go Go.RowKit Go.Sy
open Go.Eng hiding ah
set_option maxRecDepth 1000000
set_option linter.unusedVariables false
set_option maxHeartbeats 4000000
theorem FInv.init {tl:List Rl} {cs:List Int} (h1:∀r,r∈tl→r.l=[]∧r.com=0) (h2:∀c,c∈cs→c=0) (h3:cs.length=tl.length+1):FInv ⟨[],0⟩ tl cs []:=by
 refine⟨h3,fun x hx=>by simp at hx,by simp,by simp,Int.le_refl 0,by simp,?_,fun j r c k1 k2=> ?_,fun u hu=> ?_,fun x hx=>by simp at hx⟩
 ·cases cs with
  |nil=>simp at h3
  |cons c cs=>simp[h2 c List.mem_cons_self]
 ·obtain⟨e1,e2⟩:=h1 r (akp k1)
  have e3:=h2 c (akp k2)
  simp[e1,e2,e3]
 ·refine Int.not_lt.1 fun hlt=> ?_
  have hlt:(0:Int)<u:=hlt
  rw[List.filter_eq_nil_iff.2 (fun x hx=>by have:=h2 x hx;simp;omega)]at hu
  simp at hu
def encS (x:Sg):List PL:=[.sint 0 x.k,.sint 0 x.x,.sint 0 x.y,.sint 0 x.i]
def Sv:XF:=.mk 38 (.one 0) (.seq (g_ 1 [p_ 0 0 (.mv (.c (.bool false)))]) (.seq (g_ 5 [c_ 0 3 21 [i_ 0],c_ 1 4 21 [i_ 0],e_ 2 5 (.bsl 52 2 1 [.int 1 (.ofNat 0),.int 2 (.ofNat 0)] [(0,2)] [.t 4]),c_ 3 6 23 [.c (.int 1 (.ofNat 1)),.t 3,.t 5],p_ 4 1 (m_ 6)]) (.seq (g_ 4 [p_ 0 7 (m_ 1),c_ 1 8 25 [i_ 1],c_ 2 9 24 [.t 7,.t 8],p_ 3 2 (m_ 9)]) (.seq (g_ 29 [p_ 0 10 (m_ 2),c_ 1 11 26 [.t 10],p_ 2 12 (.bin 3 4 (.t 11) (i_ 0)),p_ 3 13 (m_ 12),am 4 14 13 true (m_ 1),da 5 15 13 true 19 [.t 14],p_ 6 16 (.pick (.t 13) (.t 15) (.c (.bool false))),p_ 7 17 (m_ 16),am 8 18 17 true (m_ 1),da 9 19 17 true 22 [.t 18],p_ 10 20 (.pick (.t 17) (.t 19) (.c (.bool false))),p_ 11 21 (m_ 20),am 12 22 21 true (m_ 1),da 13 23 21 true 12 [.t 22],am 14 24 21 true (.bin 3 4 (.t 23) (i_ 1)),p_ 15 25 (.pick (.t 21) (.t 24) (.c (.bool false))),p_ 16 26 (m_ 25),am 17 27 26 true (m_ 1),da 18 28 26 true 16 [.t 27],am 19 29 26 true (.fld false 1 1 (.t 28)),am 20 30 26 true (.bin 3 4 (.t 29) (.c (.int 3 (.ofNat 1)))),p_ 21 31 (.pick (.t 26) (.t 30) (.c (.bool false))),p_ 22 32 (m_ 31),am 23 33 32 true (m_ 1),da 24 34 32 true 13 [.t 33],am 25 35 32 true (k_ 34),am 26 36 32 true (.bin 3 4 (.t 35) (i_ 1)),p_ 27 37 (.pick (.t 32) (.t 36) (.c (.bool false))),p_ 28 0 (m_ 37)]) .ret))))
theorem Vm:aW Tryz.prog 8 Sv=true:=by kernel_rfl
abbrev zF:=Unit
noncomputable def ua (p:zF):IE:=([],.leaf,0)
noncomputable def NK (p:zF) (K:KE):Bool:=K (.bool true) .leaf 0
theorem abc (p:zF) (K:KE) (hK:NK p K=true):(aY 0 (bg pu) bp 600 Sv (ua p).1 (ua p).2.1 (ua p).2.2 K)=true:=by
 refine Eq.trans (b:=(ac (ac (ac (K (.bool true) .leaf 0) (true)) (ac (K (.bool true) .leaf 0) (true))) (ac (K (.bool true) .leaf 0) (true)))) (by kernel_rfl) ?_
 repeat' (first|exact hK|refine mI rfl ?_|refine aG ?_ ?_|exact rfl)
noncomputable def Oo:=aZ Ki 0 (be ua NK) 8 []
theorem Rn:aE Tryz.prog Oo:=az (ck (f:=8) (k:=0) (ay fX) Vm (by rfl) (by rfl) abc) OW
noncomputable def Nh1 (k0:Nat):T:=(.node (.node (.node (.node .leaf (some (.prow 68 18 Ke ([]:List Ke) ai)) .leaf) (some (bR 1 6 7 8 aa k0 0)) .leaf) (some (.blk false 86 21 [[aa,bt,.sl 2 0 1 (.rest 0),.ptr 3 0,.ptr 4 0,.nilP,cE,aa,aa,bj,.nilS,.nilS,.nilS,.nilS,.bool false,bt,aw,nw,.nilS,.sl 5 0 1 (.rest 0),cE]])) (.node (.node .leaf (some (jb)) .leaf) (some (bV 1 9)) .leaf)) (some (jb)) (.node (.node (.node .leaf (some (.map [(.agg bu,.sy (.int 0 0),0)] 1)) .leaf) (some (bA)) .leaf) (some (jb)) (.node .leaf (some (jb)) .leaf)))
noncomputable def Nh2 (k0:Nat):T:=(.node (.node (.node (.node .leaf (some (.prow 68 18 Ke ([]:List Ke) ai)) .leaf) (some (bR 2 6 7 8 aa k0 0)) .leaf) (some (.blk false 86 21 [[aa,bt,.sl 2 0 2 (.rest 0),.ptr 3 0,.ptr 4 0,.nilP,cE,aa,aa,bj,.nilS,.nilS,.nilS,.nilS,.bool false,bt,aw,nw,.nilS,.sl 5 0 1 (.rest 0),cE]])) (.node (.node .leaf (some (bN)) .leaf) (some (bV 2 9)) .leaf)) (some (bN)) (.node (.node (.node .leaf (some (.map [(.agg bu,.sy (.int 0 0),0),(.agg bK,.sy (.int 0 0),1)] 2)) .leaf) (some (bA)) .leaf) (some (bN)) (.node .leaf (some (bN)) .leaf)))
noncomputable def Nf2 (me:Int) (k0:Nat):T:=(.node (.node (.node (.node .leaf (some (.prow 68 18 Ke ([]:List Ke) ai)) .leaf) (some (bR 2 6 7 8 (.sy (.int 1 me)) k0 0)) .leaf) (some (.blk false 86 21 [[aa,bt,.sl 2 0 2 (.rest 0),.ptr 3 0,.ptr 4 0,.nilP,cE,aa,.sy (.int 1 me),bj,.nilS,.nilS,.nilS,.nilS,.bool false,bt,aw,nw,.nilS,.sl 5 0 1 (.rest 0),cE]])) (.node (.node .leaf (some (bN)) .leaf) (some (bV 2 9)) .leaf)) (some (bN)) (.node (.node (.node .leaf (some (.map [(.agg bu,.sy (.int 0 0),0),(.agg bK,.sy (.int 0 0),1)] 2)) .leaf) (some (bA)) .leaf) (some (bN)) (.node .leaf (some (bN)) .leaf)))
noncomputable def Nh3 (k0:Nat):T:=(.node (.node (.node (.node .leaf (some (.prow 68 18 Ke ([]:List Ke) ai)) .leaf) (some (bR 3 6 7 8 aa k0 0)) .leaf) (some (.blk false 86 21 [[aa,bt,.sl 2 0 3 (.rest 0),.ptr 3 0,.ptr 4 0,.nilP,cE,aa,aa,bj,.nilS,.nilS,.nilS,.nilS,.bool false,bt,aw,nw,.nilS,.sl 5 0 1 (.rest 0),cE]])) (.node (.node .leaf (some (bE)) .leaf) (some (bV 3 9)) .leaf)) (some (bE)) (.node (.node (.node .leaf (some (.map [(.agg bu,.sy (.int 0 0),0),(.agg bK,.sy (.int 0 0),1),(.agg cQ,.sy (.int 0 0),2)] 3)) .leaf) (some (bA)) .leaf) (some (bE)) (.node .leaf (some (bE)) .leaf)))
noncomputable def OU (me:Int) (k0:Nat):T:=(.node (.node (.node (.node .leaf (some (.prow 68 18 Ke ([]:List Ke) ai)) .leaf) (some (bR 3 6 7 8 (.sy (.int 1 me)) k0 0)) .leaf) (some (.blk false 86 21 [[aa,bt,.sl 2 0 3 (.rest 0),.ptr 3 0,.ptr 4 0,.nilP,cE,aa,.sy (.int 1 me),bj,.nilS,.nilS,.nilS,.nilS,.bool false,bt,aw,nw,.nilS,.sl 5 0 1 (.rest 0),cE]])) (.node (.node .leaf (some (bE)) .leaf) (some (bV 3 9)) .leaf)) (some (bE)) (.node (.node (.node .leaf (some (.map [(.agg bu,.sy (.int 0 0),0),(.agg bK,.sy (.int 0 0),1),(.agg cQ,.sy (.int 0 0),2)] 3)) .leaf) (some (bA)) .leaf) (some (bE)) (.node .leaf (some (bE)) .leaf)))
noncomputable def Nh4 (k0:Nat):T:=(.node (.node (.node (.node .leaf (some (.prow 68 18 Ke ([]:List Ke) ai)) .leaf) (some (bR 4 6 7 8 aa k0 0)) .leaf) (some (.blk false 86 21 [[aa,bt,.sl 2 0 4 (.rest 0),.ptr 3 0,.ptr 4 0,.nilP,cE,aa,aa,bj,.nilS,.nilS,.nilS,.nilS,.bool false,bt,aw,nw,.nilS,.sl 5 0 1 (.rest 0),cE]])) (.node (.node .leaf (some (bw)) .leaf) (some (bV 4 9)) .leaf)) (some (bw)) (.node (.node (.node .leaf (some (.map [(.agg bu,.sy (.int 0 0),0),(.agg bK,.sy (.int 0 0),1),(.agg cQ,.sy (.int 0 0),2),(.agg fx,.sy (.int 0 0),3)] 4)) .leaf) (some (bA)) .leaf) (some (bw)) (.node .leaf (some (bw)) .leaf)))
noncomputable def BG (me:Int) (k0:Nat):T:=(.node (.node (.node (.node .leaf (some (.prow 68 18 Ke ([]:List Ke) ai)) .leaf) (some (bR 4 6 7 8 (.sy (.int 1 me)) k0 0)) .leaf) (some (.blk false 86 21 [[aa,bt,.sl 2 0 4 (.rest 0),.ptr 3 0,.ptr 4 0,.nilP,cE,aa,.sy (.int 1 me),bj,.nilS,.nilS,.nilS,.nilS,.bool false,bt,aw,nw,.nilS,.sl 5 0 1 (.rest 0),cE]])) (.node (.node .leaf (some (bw)) .leaf) (some (bV 4 9)) .leaf)) (some (bw)) (.node (.node (.node .leaf (some (.map [(.agg bu,.sy (.int 0 0),0),(.agg bK,.sy (.int 0 0),1),(.agg cQ,.sy (.int 0 0),2),(.agg fx,.sy (.int 0 0),3)] 4)) .leaf) (some (bA)) .leaf) (some (bw)) (.node .leaf (some (bw)) .leaf)))
def vm:XF:=.mk 35 (.one 6) (.aft (.seq (g_ 2 [e_ 0 4 (.box 52 (.t 1)),p_ 1 6 (.mv (.c .nilP))]) (.seq (g_ 9 [p_ 0 11 (m_ 0),p_ 1 12 (m_ 2),c_ 2 13 43 [.t 11,.t 12],p_ 3 10 (m_ 13),p_ 4 14 (.ext 0 (.t 10)),p_ 5 15 (.ext 1 (.t 10)),e_ 6 7 (.al 45 [.int 1 (.ofNat 0),.int 3 (.ofNat 0),.nilS]),bm 7 (.st 3 (.t 7) (.t 14)),p_ 8 8 (m_ 15)]) (.seq (.seq (g_ 7 [p_ 0 16 (m_ 8),p_ 1 17 (.bin 3 5 (.t 16) (i_ 0)),p_ 2 18 (m_ 17),aU 3 19 18 false (.ld true 2 (.t 4)),da 4 20 18 false 44 [.t 19],am 5 21 18 false (.un 0 (.t 20)),p_ 6 22 (.pick (.t 18) (.c (.bool true)) (.t 21))]) (.cond (.t 22) (.seq (g_ 1 [p_ 0 6 (.mv (.c .nilP))]) .ret) .skip)) (.seq (g_ 5 [p_ 0 23 (m_ 0),r_ 1 24 (.ld true 2 (.t 4)),p_ 2 25 (.bld [.int 1 (.ofNat 0),.int 3 (.ofNat 0),.nilS,.nilP,.nilP,.nilP,.int 0 (.ofNat 0),.int 1 (.ofNat 0),.int 1 (.ofNat 0),.int 2 (.ofNat 0),.nilS,.nilS,.nilS,.nilS,.bool false,.int 3 (.ofNat 0),.int 3 (.ofNat 0),.int 0 (.ofNat 0),.nilS,.nilS,.int 0 (.ofNat 0)] [(7,1),(8,2)] [.t 23,.t 24]),e_ 3 26 (.box 86 (.t 25)),p_ 4 9 (m_ 26)]) (.seq (.seq (g_ 4 [r_ 0 27 (.ld true 3 (.t 7)),r_ 1 28 (.ld true 2 (.t 4)),c_ 2 29 45 [.t 27,.t 28],p_ 3 30 (.bin 3 3 (.t 29) (i_ 0))]) (.cond (.t 30) (g_ 3 [p_ 0 31 (m_ 9),r_ 1 32 (.ld true 3 (.t 7)),c_ 2 33 46 [.t 31,i_ 0,.t 32,.c .nilS]]) .skip)) (.seq (g_ 2 [p_ 0 34 (m_ 9),p_ 1 6 (m_ 34)]) .ret)))))) [(1,[.can 1 [6],.cell 3 0 5 68 18 Ke ai,.upc 3 0 7,.can 1 [6],.upm 8])])
theorem rA:aW Tryz.prog 23 vm=true:=by kernel_rfl
abbrev FQ:=Unit
noncomputable def zo (p:FQ):IE:=([aa,.agg bu,.sl 0 0 1 (.rest 0)],(.node .leaf (some (jb)) .leaf),1)
noncomputable def NI (p:FQ) (K:KE):Bool:=K (.ptr 1 0) (Nh1 (([]:List Ke).length)) 10
theorem aa0 (p:FQ) (K:KE) (hK:NI p K=true):(aY 1 (bg pu) bp 600 vm (zo p).1 (zo p).2.1 (zo p).2.2 K)=true:=by
 refine Eq.trans (b:=(ac (ac (mP ((.sl 7 0 0 (.ex 0):AV)=(.sl 7 0 0 (.ex 0):AV)) (K (.ptr 1 0) (Nh1 0) 10)) (mP ((.sl 7 0 0 (.ex 0):AV)=(.sl 7 0 0 (.ex 0):AV)) (K (.ptr 1 0) (Nh1 0) 10))) (mP ((.sl 7 0 0 (.ex 0):AV)=(.sl 7 0 0 (.ex 0):AV)) (K (.ptr 1 0) (Nh1 0) 10)))) (by kernel_rfl) ?_
 repeat' (first|exact hK|refine mI rfl ?_|refine aG ?_ ?_)
noncomputable def Iz:aM:=bn (fun us M=>bC (Nat.beq (ca M 0) 1) (Nat.beq (iS us 1 0) 0)) (be zo NI) (fun _ _ _ _=>false)
theorem QP:aX Tryz.prog 23 1 Iz:=aD (ck (f:=23) (k:=1) (ay fX) rA (by rfl) (by rfl) aa0) dT
noncomputable def On:=aZ Oo 1 Iz 23 [(0,1),(1,15),(2,5)]
theorem Rm:aE Tryz.prog On:=az QP Rn
def Sl:XF:=vm
theorem Vc:aW Tryz.prog 23 Sl=true:=rA
abbrev FP:=Unit
noncomputable def zn (p:FP):IE:=([aa,.agg bu,.sl 0 0 2 (.rest 0)],(.node .leaf (some (bN)) .leaf),1)
noncomputable def NH (p:FP) (K:KE):Bool:=K (.ptr 1 0) (Nh2 (([]:List Ke).length)) 10
theorem aaZ (p:FP) (K:KE) (hK:NH p K=true):(aY 1 (bg pu) bp 600 Sl (zn p).1 (zn p).2.1 (zn p).2.2 K)=true:=by
 refine Eq.trans (b:=(ac (ac (mP ((.sl 7 0 0 (.ex 0):AV)=(.sl 7 0 0 (.ex 0):AV)) (K (.ptr 1 0) (Nh2 0) 10)) (mP ((.sl 7 0 0 (.ex 0):AV)=(.sl 7 0 0 (.ex 0):AV)) (K (.ptr 1 0) (Nh2 0) 10))) (mP ((.sl 7 0 0 (.ex 0):AV)=(.sl 7 0 0 (.ex 0):AV)) (K (.ptr 1 0) (Nh2 0) 10)))) (by kernel_rfl) ?_
 repeat' (first|exact hK|refine mI rfl ?_|refine aG ?_ ?_)
noncomputable def Iy:aM:=bn (fun us M=>bC (Nat.beq (ca M 0) 2) (Nat.beq (iS us 1 0) 0)) (be zn NH) Iz
theorem QO:aX Tryz.prog 23 1 Iy:=aD (ck (f:=23) (k:=1) (ay fX) Vc (by rfl) (by rfl) aaZ) QP
noncomputable def Om:=aZ On 1 Iy 23 [(0,1),(1,15),(2,5)]
theorem Rk:aE Tryz.prog Om:=az QO Rm
def nz:XF:=.mk 35 (.one 6) (.aft (.seq (g_ 2 [e_ 0 4 (.box 52 (.t 1)),p_ 1 6 (.mv (.c .nilP))]) (.seq (g_ 9 [p_ 0 11 (m_ 0),p_ 1 12 (m_ 2),c_ 2 13 43 [.t 11,.t 12],p_ 3 10 (m_ 13),p_ 4 14 (.ext 0 (.t 10)),p_ 5 15 (.ext 1 (.t 10)),e_ 6 7 (.al 45 [.int 1 (.ofNat 0),.int 3 (.ofNat 0),.nilS]),bm 7 (.st 3 (.t 7) (.t 14)),p_ 8 8 (m_ 15)]) (.seq (.seq (g_ 7 [p_ 0 16 (m_ 8),p_ 1 17 (.bin 3 5 (.t 16) (i_ 0)),p_ 2 18 (m_ 17),aU 3 19 18 false (.ld true 2 (.t 4)),da 4 20 18 false 44 [.t 19],am 5 21 18 false (.un 0 (.t 20)),p_ 6 22 (.pick (.t 18) (.c (.bool true)) (.t 21))]) (.cond (.t 22) (.seq (g_ 1 [p_ 0 6 (.mv (.c .nilP))]) .ret) .skip)) (.seq (g_ 5 [p_ 0 23 (m_ 0),r_ 1 24 (.ld true 2 (.t 4)),p_ 2 25 (.bld [.int 1 (.ofNat 0),.int 3 (.ofNat 0),.nilS,.nilP,.nilP,.nilP,.int 0 (.ofNat 0),.int 1 (.ofNat 0),.int 1 (.ofNat 0),.int 2 (.ofNat 0),.nilS,.nilS,.nilS,.nilS,.bool false,.int 3 (.ofNat 0),.int 3 (.ofNat 0),.int 0 (.ofNat 0),.nilS,.nilS,.int 0 (.ofNat 0)] [(7,1),(8,2)] [.t 23,.t 24]),e_ 3 26 (.box 86 (.t 25)),p_ 4 9 (m_ 26)]) (.seq (.seq (g_ 4 [r_ 0 27 (.ld true 3 (.t 7)),r_ 1 28 (.ld true 2 (.t 4)),c_ 2 29 45 [.t 27,.t 28],p_ 3 30 (.bin 3 3 (.t 29) (i_ 0))]) (.cond (.t 30) (g_ 3 [p_ 0 31 (m_ 9),r_ 1 32 (.ld true 3 (.t 7)),c_ 2 33 46 [.t 31,i_ 0,.t 32,.c .nilS]]) .skip)) (.seq (g_ 2 [p_ 0 34 (m_ 9),p_ 1 6 (m_ 34)]) .ret)))))) [(1,[.can 1 [6],.cell 3 0 5 68 18 Ke ai,.upc 3 0 7,.upc 1 0 8,.upc 3 0 3,.can 1 [6],.upm 8])])
theorem jW:aW Tryz.prog 23 nz=true:=by kernel_rfl
abbrev FO:=Unit
noncomputable def zm (p:FO):IE:=([aa,.agg bK,.sl 0 0 2 (.rest 0)],(.node .leaf (some (bN)) .leaf),1)
noncomputable def NG (p:FO) (K:KE):Bool:=K (.ptr 1 0) (Nf2 1 (([]:List Ke).length)) 10
theorem aaY (p:FO) (K:KE) (hK:NG p K=true):(aY 1 (bg pu) bp 600 nz (zm p).1 (zm p).2.1 (zm p).2.2 K)=true:=by
 refine Eq.trans (b:=(ac (ac (mP ((.sl 7 0 0 (.ex 0):AV)=(.sl 7 0 0 (.ex 0):AV)) (K (.ptr 1 0) (Nf2 1 0) 10)) (mP ((.sl 7 0 0 (.ex 0):AV)=(.sl 7 0 0 (.ex 0):AV)) (K (.ptr 1 0) (Nf2 1 0) 10))) (mP ((.sl 7 0 0 (.ex 0):AV)=(.sl 7 0 0 (.ex 0):AV)) (K (.ptr 1 0) (Nf2 1 0) 10)))) (by kernel_rfl) ?_
 repeat' (first|exact hK|refine mI rfl ?_|refine aG ?_ ?_)
noncomputable def Ix:aM:=bn (fun us M=>bC (Nat.beq (ca M 0) 2) (Nat.beq (iS us 1 0) 1)) (be zm NG) Iy
theorem QN:aX Tryz.prog 23 1 Ix:=aD (ck (f:=23) (k:=1) (ay fX) jW (by rfl) (by rfl) aaY) QO
noncomputable def Ol:=aZ Om 1 Ix 23 [(0,1),(1,15),(2,5)]
theorem Rj:aE Tryz.prog Ol:=az QN Rk
def Sk:XF:=vm
theorem Vb:aW Tryz.prog 23 Sk=true:=rA
abbrev FN:=Unit
noncomputable def zk (p:FN):IE:=([aa,.agg bu,.sl 0 0 3 (.rest 0)],(.node .leaf (some (bE)) .leaf),1)
noncomputable def NF (p:FN) (K:KE):Bool:=K (.ptr 1 0) (Nh3 (([]:List Ke).length)) 10
theorem aaX (p:FN) (K:KE) (hK:NF p K=true):(aY 1 (bg pu) bp 600 Sk (zk p).1 (zk p).2.1 (zk p).2.2 K)=true:=by
 refine Eq.trans (b:=(ac (ac (mP ((.sl 7 0 0 (.ex 0):AV)=(.sl 7 0 0 (.ex 0):AV)) (K (.ptr 1 0) (Nh3 0) 10)) (mP ((.sl 7 0 0 (.ex 0):AV)=(.sl 7 0 0 (.ex 0):AV)) (K (.ptr 1 0) (Nh3 0) 10))) (mP ((.sl 7 0 0 (.ex 0):AV)=(.sl 7 0 0 (.ex 0):AV)) (K (.ptr 1 0) (Nh3 0) 10)))) (by kernel_rfl) ?_
 repeat' (first|exact hK|refine mI rfl ?_|refine aG ?_ ?_)
noncomputable def Iw:aM:=bn (fun us M=>bC (Nat.beq (ca M 0) 3) (Nat.beq (iS us 1 0) 0)) (be zk NF) Ix
theorem QM:aX Tryz.prog 23 1 Iw:=aD (ck (f:=23) (k:=1) (ay fX) Vb (by rfl) (by rfl) aaX) QN
noncomputable def Ok:=aZ Ol 1 Iw 23 [(0,1),(1,15),(2,5)]
theorem Ri:aE Tryz.prog Ok:=az QM Rj
def Sj:XF:=nz
theorem Va:aW Tryz.prog 23 Sj=true:=jW
abbrev FM:=Unit
noncomputable def zj (p:FM):IE:=([aa,.agg bK,.sl 0 0 3 (.rest 0)],(.node .leaf (some (bE)) .leaf),1)
noncomputable def NE (p:FM) (K:KE):Bool:=K (.ptr 1 0) (OU 1 (([]:List Ke).length)) 10
theorem aaW (p:FM) (K:KE) (hK:NE p K=true):(aY 1 (bg pu) bp 600 Sj (zj p).1 (zj p).2.1 (zj p).2.2 K)=true:=by
 refine Eq.trans (b:=(ac (ac (mP ((.sl 7 0 0 (.ex 0):AV)=(.sl 7 0 0 (.ex 0):AV)) (K (.ptr 1 0) (OU 1 0) 10)) (mP ((.sl 7 0 0 (.ex 0):AV)=(.sl 7 0 0 (.ex 0):AV)) (K (.ptr 1 0) (OU 1 0) 10))) (mP ((.sl 7 0 0 (.ex 0):AV)=(.sl 7 0 0 (.ex 0):AV)) (K (.ptr 1 0) (OU 1 0) 10)))) (by kernel_rfl) ?_
 repeat' (first|exact hK|refine mI rfl ?_|refine aG ?_ ?_)
noncomputable def Iv:aM:=bn (fun us M=>bC (Nat.beq (ca M 0) 3) (Nat.beq (iS us 1 0) 1)) (be zj NE) Iw
theorem QL:aX Tryz.prog 23 1 Iv:=aD (ck (f:=23) (k:=1) (ay fX) Va (by rfl) (by rfl) aaW) QM
noncomputable def Oj:=aZ Ok 1 Iv 23 [(0,1),(1,15),(2,5)]
theorem Rh:aE Tryz.prog Oj:=az QL Ri
def Si:XF:=nz
theorem UZ:aW Tryz.prog 23 Si=true:=jW
abbrev FL:=Unit
noncomputable def zi (p:FL):IE:=([aa,.agg cQ,.sl 0 0 3 (.rest 0)],(.node .leaf (some (bE)) .leaf),1)
noncomputable def ND (p:FL) (K:KE):Bool:=K (.ptr 1 0) (OU 2 (([]:List Ke).length)) 10
theorem aaV (p:FL) (K:KE) (hK:ND p K=true):(aY 1 (bg pu) bp 600 Si (zi p).1 (zi p).2.1 (zi p).2.2 K)=true:=by
 refine Eq.trans (b:=(ac (ac (mP ((.sl 7 0 0 (.ex 0):AV)=(.sl 7 0 0 (.ex 0):AV)) (K (.ptr 1 0) (OU 2 0) 10)) (mP ((.sl 7 0 0 (.ex 0):AV)=(.sl 7 0 0 (.ex 0):AV)) (K (.ptr 1 0) (OU 2 0) 10))) (mP ((.sl 7 0 0 (.ex 0):AV)=(.sl 7 0 0 (.ex 0):AV)) (K (.ptr 1 0) (OU 2 0) 10)))) (by kernel_rfl) ?_
 repeat' (first|exact hK|refine mI rfl ?_|refine aG ?_ ?_)
noncomputable def Iu:aM:=bn (fun us M=>bC (Nat.beq (ca M 0) 3) (Nat.beq (iS us 1 0) 2)) (be zi ND) Iv
theorem QK:aX Tryz.prog 23 1 Iu:=aD (ck (f:=23) (k:=1) (ay fX) UZ (by rfl) (by rfl) aaV) QL
noncomputable def Oi:=aZ Oj 1 Iu 23 [(0,1),(1,15),(2,5)]
theorem Rg:aE Tryz.prog Oi:=az QK Rh
def Sf:XF:=vm
theorem UY:aW Tryz.prog 23 Sf=true:=rA
abbrev FK:=Unit
noncomputable def zh (p:FK):IE:=([aa,.agg bu,.sl 0 0 4 (.rest 0)],(.node .leaf (some (bw)) .leaf),1)
noncomputable def NC (p:FK) (K:KE):Bool:=K (.ptr 1 0) (Nh4 (([]:List Ke).length)) 10
theorem aaU (p:FK) (K:KE) (hK:NC p K=true):(aY 1 (bg pu) bp 600 Sf (zh p).1 (zh p).2.1 (zh p).2.2 K)=true:=by
 refine Eq.trans (b:=(ac (ac (mP ((.sl 7 0 0 (.ex 0):AV)=(.sl 7 0 0 (.ex 0):AV)) (K (.ptr 1 0) (Nh4 0) 10)) (mP ((.sl 7 0 0 (.ex 0):AV)=(.sl 7 0 0 (.ex 0):AV)) (K (.ptr 1 0) (Nh4 0) 10))) (mP ((.sl 7 0 0 (.ex 0):AV)=(.sl 7 0 0 (.ex 0):AV)) (K (.ptr 1 0) (Nh4 0) 10)))) (by kernel_rfl) ?_
 repeat' (first|exact hK|refine mI rfl ?_|refine aG ?_ ?_)
noncomputable def It:aM:=bn (fun us M=>bC (Nat.beq (ca M 0) 4) (Nat.beq (iS us 1 0) 0)) (be zh NC) Iu
theorem QJ:aX Tryz.prog 23 1 It:=aD (ck (f:=23) (k:=1) (ay fX) UY (by rfl) (by rfl) aaU) QK
noncomputable def Oh:=aZ Oi 1 It 23 [(0,1),(1,15),(2,5)]
theorem Rf:aE Tryz.prog Oh:=az QJ Rg
def Se:XF:=nz
theorem UX:aW Tryz.prog 23 Se=true:=jW
abbrev FJ:=Unit
noncomputable def zg (p:FJ):IE:=([aa,.agg bK,.sl 0 0 4 (.rest 0)],(.node .leaf (some (bw)) .leaf),1)
noncomputable def NB (p:FJ) (K:KE):Bool:=K (.ptr 1 0) (BG 1 (([]:List Ke).length)) 10
theorem aaT (p:FJ) (K:KE) (hK:NB p K=true):(aY 1 (bg pu) bp 600 Se (zg p).1 (zg p).2.1 (zg p).2.2 K)=true:=by
 refine Eq.trans (b:=(ac (ac (mP ((.sl 7 0 0 (.ex 0):AV)=(.sl 7 0 0 (.ex 0):AV)) (K (.ptr 1 0) (BG 1 0) 10)) (mP ((.sl 7 0 0 (.ex 0):AV)=(.sl 7 0 0 (.ex 0):AV)) (K (.ptr 1 0) (BG 1 0) 10))) (mP ((.sl 7 0 0 (.ex 0):AV)=(.sl 7 0 0 (.ex 0):AV)) (K (.ptr 1 0) (BG 1 0) 10)))) (by kernel_rfl) ?_
 repeat' (first|exact hK|refine mI rfl ?_|refine aG ?_ ?_)
noncomputable def Is:aM:=bn (fun us M=>bC (Nat.beq (ca M 0) 4) (Nat.beq (iS us 1 0) 1)) (be zg NB) It
theorem QI:aX Tryz.prog 23 1 Is:=aD (ck (f:=23) (k:=1) (ay fX) UX (by rfl) (by rfl) aaT) QJ
noncomputable def Og:=aZ Oh 1 Is 23 [(0,1),(1,15),(2,5)]
theorem Re:aE Tryz.prog Og:=az QI Rf
def Sd:XF:=nz
theorem UW:aW Tryz.prog 23 Sd=true:=jW
abbrev FI:=Unit
noncomputable def zf (p:FI):IE:=([aa,.agg cQ,.sl 0 0 4 (.rest 0)],(.node .leaf (some (bw)) .leaf),1)
noncomputable def NA (p:FI) (K:KE):Bool:=K (.ptr 1 0) (BG 2 (([]:List Ke).length)) 10
theorem aaS (p:FI) (K:KE) (hK:NA p K=true):(aY 1 (bg pu) bp 600 Sd (zf p).1 (zf p).2.1 (zf p).2.2 K)=true:=by
 refine Eq.trans (b:=(ac (ac (mP ((.sl 7 0 0 (.ex 0):AV)=(.sl 7 0 0 (.ex 0):AV)) (K (.ptr 1 0) (BG 2 0) 10)) (mP ((.sl 7 0 0 (.ex 0):AV)=(.sl 7 0 0 (.ex 0):AV)) (K (.ptr 1 0) (BG 2 0) 10))) (mP ((.sl 7 0 0 (.ex 0):AV)=(.sl 7 0 0 (.ex 0):AV)) (K (.ptr 1 0) (BG 2 0) 10)))) (by kernel_rfl) ?_
 repeat' (first|exact hK|refine mI rfl ?_|refine aG ?_ ?_)
noncomputable def Ir:aM:=bn (fun us M=>bC (Nat.beq (ca M 0) 4) (Nat.beq (iS us 1 0) 2)) (be zf NA) Is
theorem QH:aX Tryz.prog 23 1 Ir:=aD (ck (f:=23) (k:=1) (ay fX) UW (by rfl) (by rfl) aaS) QI
noncomputable def Of:=aZ Og 1 Ir 23 [(0,1),(1,15),(2,5)]
theorem Rd:aE Tryz.prog Of:=az QH Re
def Sc:XF:=nz
theorem UV:aW Tryz.prog 23 Sc=true:=jW
abbrev FH:=Unit
noncomputable def ze (p:FH):IE:=([aa,.agg fx,.sl 0 0 4 (.rest 0)],(.node .leaf (some (bw)) .leaf),1)
noncomputable def Nz (p:FH) (K:KE):Bool:=K (.ptr 1 0) (BG 3 (([]:List Ke).length)) 10
theorem aaR (p:FH) (K:KE) (hK:Nz p K=true):(aY 1 (bg pu) bp 600 Sc (ze p).1 (ze p).2.1 (ze p).2.2 K)=true:=by
 refine Eq.trans (b:=(ac (ac (mP ((.sl 7 0 0 (.ex 0):AV)=(.sl 7 0 0 (.ex 0):AV)) (K (.ptr 1 0) (BG 3 0) 10)) (mP ((.sl 7 0 0 (.ex 0):AV)=(.sl 7 0 0 (.ex 0):AV)) (K (.ptr 1 0) (BG 3 0) 10))) (mP ((.sl 7 0 0 (.ex 0):AV)=(.sl 7 0 0 (.ex 0):AV)) (K (.ptr 1 0) (BG 3 0) 10)))) (by kernel_rfl) ?_
 repeat' (first|exact hK|refine mI rfl ?_|refine aG ?_ ?_)
noncomputable def Th:aM:=bn (fun us M=>bC (Nat.beq (ca M 0) 4) (Nat.beq (iS us 1 0) 3)) (be ze Nz) Ir
theorem abN:aX Tryz.prog 23 1 Th:=aD (ck (f:=23) (k:=1) (ay fX) UV (by rfl) (by rfl) aaR) QH
noncomputable def Di:=aZ Of 1 Th 23 [(0,1),(1,15),(2,5)]
theorem Dh:aE Tryz.prog Di:=az abN Rd
def Wc:XF:=.mk 67 (.one 4) (.pre [.fix 0 5] (.aft (.seq (g_ 1 [p_ 0 4 (.mv (.c .nilP))]) (.seq (g_ 3 [p_ 0 11 (.bld [.nilS,.nilS,.nilS,.int 0 (.ofNat 0),.int 0 (.ofNat 0)] [] []),e_ 1 12 (.box 34 (.t 11)),p_ 2 5 (m_ 12)]) (.seq (g_ 1 [p_ 0 6 (.mv (.c .nilS))]) (.seq (g_ 1 [p_ 0 7 (.mv (.c .nilS))]) (.seq (.seq (g_ 1 [p_ 0 8 (.mv (i_ 0))]) (.block 2 (.loop [0,1,4,5,6,7,8,9,10,13,14,15,16,17,18,19,20,21,22,23,24,25,26,27,28,29,30,31,32,33,34,35,36,37,38,39,40,41,42,43,44,45,47,48,49,50,51,52,53,54,55,56,57,58,59,60,61,62,63,64,65,66] (.seq (.seq (g_ 5 [p_ 0 13 (m_ 8),p_ 1 14 (m_ 0),p_ 2 15 (m_ 1),p_ 3 16 (.bin 0 0 (.t 14) (.t 15)),p_ 4 17 (.bin 3 0 (.t 13) (.t 16))]) (.cond (.t 17) .skip (.exit 2))) (.seq (.block 3 (.seq (.seq (g_ 3 [p_ 0 20 (m_ 8),p_ 1 21 (m_ 0),p_ 2 22 (.bin 3 0 (.t 20) (.t 21))]) (.cond (.t 22) (g_ 6 [p_ 0 23 (m_ 6),p_ 1 24 (m_ 8),c_ 2 25 21 [.t 24],e_ 3 26 (.bsl 52 2 1 [.int 1 (.ofNat 0),.int 2 (.ofNat 0)] [(0,2)] [.t 25]),e_ 4 27 (.app 52 2 4 (.t 23) (.t 26)),p_ 5 6 (m_ 27)]) .skip)) (g_ 6 [p_ 0 28 (m_ 7),p_ 1 29 (m_ 8),c_ 2 30 21 [.t 29],e_ 3 31 (.bsl 52 2 1 [.int 1 (.ofNat 0),.int 2 (.ofNat 0)] [(0,2)] [.t 30]),e_ 4 32 (.app 52 2 4 (.t 28) (.t 31)),p_ 5 7 (m_ 32)]))) (g_ 3 [p_ 0 18 (m_ 8),p_ 1 19 (.bin 0 0 (.t 18) (i_ 1)),p_ 2 8 (m_ 19)])))))) (.seq (.seq (g_ 1 [p_ 0 9 (.mv (i_ 0))]) (.block 4 (.loop [0,1,4,5,6,7,9,10,33,34,35,36,37,38,39,40,41,42,43,44,45,47,48,49,50,51,52,53,54,55,56,57,58,59,60,61,62,63,64,65,66] (.seq (.seq (g_ 5 [p_ 0 33 (m_ 9),p_ 1 34 (m_ 0),p_ 2 35 (m_ 1),p_ 3 36 (.bin 0 0 (.t 34) (.t 35)),p_ 4 37 (.bin 3 0 (.t 33) (.t 36))]) (.cond (.t 37) .skip (.exit 4))) (.seq (.block 5 (.seq (g_ 5 [p_ 0 40 (m_ 9),c_ 1 41 21 [.t 40],p_ 2 42 (m_ 6),c_ 3 43 23 [.c (.int 1 (.ofNat 0)),.t 41,.t 42],p_ 4 10 (m_ 43)]) (.seq (g_ 3 [p_ 0 44 (m_ 10),p_ 1 45 (m_ 7),c_ 2 46 27 [.t 44,.t 45]]) (.seq (g_ 11 [p_ 0 47 (m_ 5),p_ 1 48 (m_ 5),p_ 2 49 (n_ 48),p_ 3 50 (f_ 0 49),r_ 4 51 (l_ 50),p_ 5 52 (m_ 10),e_ 6 53 (.bsl 36 1 1 [.nilP] [(0,1)] [.t 52]),e_ 7 54 (.app 36 1 8 (.t 51) (.t 53)),p_ 8 55 (n_ 47),p_ 9 56 (f_ 0 55),bm 10 (.st 1 (.t 56) (.t 54))]) (g_ 10 [p_ 0 57 (m_ 5),p_ 1 58 (m_ 5),p_ 2 59 (n_ 58),p_ 3 60 (f_ 1 59),r_ 4 61 (l_ 60),e_ 5 62 (.bsl 4 1 1 [.bool false] [(0,1)] [.c (.bool false)]),e_ 6 63 (.app 4 1 1 (.t 61) (.t 62)),p_ 7 64 (n_ 57),p_ 8 65 (f_ 1 64),bm 9 (.st 1 (.t 65) (.t 63))]))))) (g_ 3 [p_ 0 38 (m_ 9),p_ 1 39 (.bin 0 0 (.t 38) (i_ 1)),p_ 2 9 (m_ 39)])))))) (.seq (g_ 2 [p_ 0 66 (m_ 5),p_ 1 4 (m_ 66)]) .ret))))))) [(1,[.can 0 [4],.cell 0 0 2 76 33 Fl cw,.tail 0 0 2,.upc 0 0 3,.upc 0 0 4,.can 0 [4]])]))
theorem XT:aW Tryz.prog 9 Wc=true:=by kernel_rfl
structure mN where
 n:Int
structure Lh where
 f:G1
structure FG where
 f:G2
structure FF where
 f:G3
structure FE where
 f:G4
def VJ (p:mN) (r:Lh):Prop:=ef r.f∧r.f.cnt=0∧r.f.now=0∧r.f.L.length=0∧r.f.s0.l.length=0
def Qd (p:mN) (r:FG):Prop:=dH r.f∧r.f.cnt=0∧r.f.now=0∧r.f.L.length=0∧r.f.s0.l.length=0
def Qc (p:mN) (r:FF):Prop:=dD r.f∧r.f.cnt=0∧r.f.now=0∧r.f.L.length=0∧r.f.s0.l.length=0
def Qb (p:mN) (r:FE):Prop:=dy r.f∧r.f.cnt=0∧r.f.now=0∧r.f.L.length=0∧r.f.s0.l.length=0
noncomputable def ED (p:mN):IE:=([.sy (.int 0 p.n),cE],.leaf,0)
noncomputable def Qm (p:mN) (K:KE):Bool:=ac (ah fun r:Lh=>iP (VJ p r) (K (.ptr 0 0) (cN r.f (r.f.L.length - r.f.a) r.f.s0.l.length) 14) true) (ac (ah fun r:FG=>iP (Qd p r) (K (.ptr 0 0) (cd r.f (r.f.L.length - r.f.a) r.f.s0.l.length r.f.s1.l.length) 24) true) (ac (ah fun r:FF=>iP (Qc p r) (K (.ptr 0 0) (bP r.f (r.f.L.length - r.f.a) r.f.s0.l.length r.f.s1.l.length r.f.s2.l.length) 34) true) (ah fun r:FE=>iP (Qb p r) (K (.ptr 0 0) (bG r.f (r.f.L.length - r.f.a) r.f.s0.l.length r.f.s1.l.length r.f.s2.l.length r.f.s3.l.length) 44) true)))
def ur (p:mN):Prop:=1≤p.n∧p.n≤4
theorem adr (p:mN) (K:KE) (hpre:ur p) (hK:Qm p K=true):(aY 0 (bg Di) bp 600 Wc (ED p).1 (ED p).2.1 (ED p).2.2 K)=true:=by
 refine Eq.trans (b:=(iP (p.n=0) (mP ((.nilS:AV)=(.nilS:AV)) (mP (0=([]:List Fl).length) (ah fun u5:Nat=>K (.ptr 0 0) (.node (.node .leaf (some (.prow 76 33 Fl ([]:List Fl) cw)) .leaf) (some (.blk false 34 5 [[.nilS,.nilS,.sy (.psub 1 33 0 0 0 (some u5)),.sy (.int 0 0),.sy (.int 0 0)]])) .leaf) 2))) (iP (p.n=1) (ax fun p19:FQ=>mP (([aa,.agg bu,.sl 0 0 1 (.rest 0)],(.node .leaf (some (jb)) .leaf),1)=zo p19) (ax fun p20:dq=>mP (([.agg bu],.leaf,0)=de p20) (mP ((.nilS:AV)=(.nilS:AV)) (mP (0=([]:List Fl).length) (ah fun u4:Nat=>K (.ptr 0 0) (cN ⟨⟨([]:List Ke),(0:Int)⟩,(0:Int),([]:List Fl),(0:Nat),(0:Nat),u4,(0:Int),(0:Int)⟩ 0 (([]:List Ke).length)) 14))))) (iP (p.n=2) (ax fun p15:FP=>mP (([aa,.agg bu,.sl 0 0 2 (.rest 0)],(.node .leaf (some (bN)) .leaf),1)=zn p15) (ax fun p16:dq=>mP (([.agg bu],.leaf,0)=de p16) (ax fun p17:FO=>mP (([aa,.agg bK,.sl 0 0 2 (.rest 0)],(.node .leaf (some (bN)) .leaf),1)=zm p17) (ax fun p18:bB=>mP (([.agg [.sy (.int 1 1),bj]],.leaf,0)=dc p18) (mP (bh p18) (mP ((.nilS:AV)=(.nilS:AV)) (mP (0=([]:List Fl).length) (ah fun u3:Nat=>K (.ptr 0 0) (cd ⟨⟨([]:List Ke),(0:Int)⟩,⟨([]:List Ke),(0:Int)⟩,(0:Int),(0:Int),([]:List Fl),(0:Nat),(0:Nat),u3,(0:Int),(0:Int)⟩ 0 (([]:List Ke).length) (([]:List Ke).length)) 24)))))))) (iP (p.n=3) (ax fun p9:FN=>mP (([aa,.agg bu,.sl 0 0 3 (.rest 0)],(.node .leaf (some (bE)) .leaf),1)=zk p9) (ax fun p10:dq=>mP (([.agg bu],.leaf,0)=de p10) (ax fun p11:FM=>mP (([aa,.agg bK,.sl 0 0 3 (.rest 0)],(.node .leaf (some (bE)) .leaf),1)=zj p11) (ax fun p12:bB=>mP (([.agg [.sy (.int 1 1),bj]],.leaf,0)=dc p12) (mP (bh p12) (ax fun p13:FL=>mP (([aa,.agg cQ,.sl 0 0 3 (.rest 0)],(.node .leaf (some (bE)) .leaf),1)=zi p13) (ax fun p14:bB=>mP (([.agg [.sy (.int 1 2),bj]],.leaf,0)=dc p14) (mP (bh p14) (mP ((.nilS:AV)=(.nilS:AV)) (mP (0=([]:List Fl).length) (ah fun u2:Nat=>K (.ptr 0 0) (bP ⟨⟨([]:List Ke),(0:Int)⟩,⟨([]:List Ke),(0:Int)⟩,⟨([]:List Ke),(0:Int)⟩,(0:Int),(0:Int),(0:Int),([]:List Fl),(0:Nat),(0:Nat),u2,(0:Int),(0:Int)⟩ 0 (([]:List Ke).length) (([]:List Ke).length) (([]:List Ke).length)) 34))))))))))) (iP (p.n=4) (ax fun p1:FK=>mP (([aa,.agg bu,.sl 0 0 4 (.rest 0)],(.node .leaf (some (bw)) .leaf),1)=zh p1) (ax fun p2:dq=>mP (([.agg bu],.leaf,0)=de p2) (ax fun p3:FJ=>mP (([aa,.agg bK,.sl 0 0 4 (.rest 0)],(.node .leaf (some (bw)) .leaf),1)=zg p3) (ax fun p4:bB=>mP (([.agg [.sy (.int 1 1),bj]],.leaf,0)=dc p4) (mP (bh p4) (ax fun p5:FI=>mP (([aa,.agg cQ,.sl 0 0 4 (.rest 0)],(.node .leaf (some (bw)) .leaf),1)=zf p5) (ax fun p6:bB=>mP (([.agg [.sy (.int 1 2),bj]],.leaf,0)=dc p6) (mP (bh p6) (ax fun p7:FH=>mP (([aa,.agg fx,.sl 0 0 4 (.rest 0)],(.node .leaf (some (bw)) .leaf),1)=ze p7) (ax fun p8:bB=>mP (([.agg [.sy (.int 1 3),bj]],.leaf,0)=dc p8) (mP (bh p8) (mP ((.nilS:AV)=(.nilS:AV)) (mP (0=([]:List Fl).length) (ah fun u1:Nat=>K (.ptr 0 0) (bG ⟨⟨([]:List Ke),(0:Int)⟩,⟨([]:List Ke),(0:Int)⟩,⟨([]:List Ke),(0:Int)⟩,⟨([]:List Ke),(0:Int)⟩,(0:Int),(0:Int),(0:Int),(0:Int),([]:List Fl),(0:Nat),(0:Nat),u1,(0:Int),(0:Int)⟩ 0 (([]:List Ke).length) (([]:List Ke).length) (([]:List Ke).length) (([]:List Ke).length)) 44)))))))))))))) (mP (False) (true)))))))) (by kernel_rfl) ?_
 obtain⟨hK0,hKr0⟩:=aq hK
 obtain⟨hK1,hKr1⟩:=aq hKr0
 obtain⟨hK2,hKr2⟩:=aq hKr1
 have hK3:=hKr2
 dsimp only[ur]at hpre
 obtain⟨u1,u2⟩:=hpre
 refine iI (fun hc1=> ?_) (fun hc1=> ?_)
 refine aK (aK ?_)
 refine aj (fun u5=> ?_)
 exfalso;omega
 refine iI (fun hc2=> ?_) (fun hc2=> ?_)
 refine aH ⟨⟩ ?_
 refine aK ?_
 refine aH ⟨⟩ ?_
 refine aK (aK (aK ?_))
 refine aj (fun u4=> ?_)
 exact aA (show ef (⟨⟨([]:List Ke),(0:Int)⟩,(0:Int),([]:List Fl),(0:Nat),(0:Nat),u4,(0:Int),(0:Int)⟩:G1)∧(0:Int)=0∧(0:Int)=0∧([]:List Fl).length=0∧([]:List Ke).length=0 from(by exact⟨⟨FInv.init (by simp) (by simp) rfl,by simp⟩,rfl,rfl,rfl,rfl⟩)) (au hK0 (⟨⟨⟨([]:List Ke),(0:Int)⟩,(0:Int),([]:List Fl),(0:Nat),(0:Nat),u4,(0:Int),(0:Int)⟩⟩:Lh))
 refine iI (fun hc3=> ?_) (fun hc3=> ?_)
 refine aH ⟨⟩ ?_
 refine aK ?_
 refine aH ⟨⟩ ?_
 refine aK ?_
 refine aH ⟨⟩ ?_
 refine aK ?_
 refine aP (⟨(1:Int)⟩:bB) rfl (by(try dsimp only[bh]);omega) ?_
 refine aK (aK ?_)
 refine aj (fun u3=> ?_)
 exact aA (show dH (⟨⟨([]:List Ke),(0:Int)⟩,⟨([]:List Ke),(0:Int)⟩,(0:Int),(0:Int),([]:List Fl),(0:Nat),(0:Nat),u3,(0:Int),(0:Int)⟩:G2)∧(0:Int)=0∧(0:Int)=0∧([]:List Fl).length=0∧([]:List Ke).length=0 from(by exact⟨⟨FInv.init (by simp) (by simp) rfl,by simp⟩,rfl,rfl,rfl,rfl⟩)) (au hK1 (⟨⟨⟨([]:List Ke),(0:Int)⟩,⟨([]:List Ke),(0:Int)⟩,(0:Int),(0:Int),([]:List Fl),(0:Nat),(0:Nat),u3,(0:Int),(0:Int)⟩⟩:FG))
 refine iI (fun hc4=> ?_) (fun hc4=> ?_)
 refine aH ⟨⟩ ?_
 refine aK ?_
 refine aH ⟨⟩ ?_
 refine aK ?_
 refine aH ⟨⟩ ?_
 refine aK ?_
 refine aP (⟨(1:Int)⟩:bB) rfl (by(try dsimp only[bh]);omega) ?_
 refine aH ⟨⟩ ?_
 refine aK ?_
 refine aP (⟨(2:Int)⟩:bB) rfl (by(try dsimp only[bh]);omega) ?_
 refine aK (aK ?_)
 refine aj (fun u2=> ?_)
 exact aA (show dD (⟨⟨([]:List Ke),(0:Int)⟩,⟨([]:List Ke),(0:Int)⟩,⟨([]:List Ke),(0:Int)⟩,(0:Int),(0:Int),(0:Int),([]:List Fl),(0:Nat),(0:Nat),u2,(0:Int),(0:Int)⟩:G3)∧(0:Int)=0∧(0:Int)=0∧([]:List Fl).length=0∧([]:List Ke).length=0 from(by exact⟨⟨FInv.init (by simp) (by simp) rfl,by simp⟩,rfl,rfl,rfl,rfl⟩)) (au hK2 (⟨⟨⟨([]:List Ke),(0:Int)⟩,⟨([]:List Ke),(0:Int)⟩,⟨([]:List Ke),(0:Int)⟩,(0:Int),(0:Int),(0:Int),([]:List Fl),(0:Nat),(0:Nat),u2,(0:Int),(0:Int)⟩⟩:FF))
 refine iI (fun hc5=> ?_) (fun hc5=> ?_)
 refine aH ⟨⟩ ?_
 refine aK ?_
 refine aH ⟨⟩ ?_
 refine aK ?_
 refine aH ⟨⟩ ?_
 refine aK ?_
 refine aP (⟨(1:Int)⟩:bB) rfl (by(try dsimp only[bh]);omega) ?_
 refine aH ⟨⟩ ?_
 refine aK ?_
 refine aP (⟨(2:Int)⟩:bB) rfl (by(try dsimp only[bh]);omega) ?_
 refine aH ⟨⟩ ?_
 refine aK ?_
 refine aP (⟨(3:Int)⟩:bB) rfl (by(try dsimp only[bh]);omega) ?_
 refine aK (aK ?_)
 refine aj (fun u1=> ?_)
 exact aA (show dy (⟨⟨([]:List Ke),(0:Int)⟩,⟨([]:List Ke),(0:Int)⟩,⟨([]:List Ke),(0:Int)⟩,⟨([]:List Ke),(0:Int)⟩,(0:Int),(0:Int),(0:Int),(0:Int),([]:List Fl),(0:Nat),(0:Nat),u1,(0:Int),(0:Int)⟩:G4)∧(0:Int)=0∧(0:Int)=0∧([]:List Fl).length=0∧([]:List Ke).length=0 from(by exact⟨⟨FInv.init (by simp) (by simp) rfl,by simp⟩,rfl,rfl,rfl,rfl⟩)) (au hK3 (⟨⟨⟨([]:List Ke),(0:Int)⟩,⟨([]:List Ke),(0:Int)⟩,⟨([]:List Ke),(0:Int)⟩,⟨([]:List Ke),(0:Int)⟩,(0:Int),(0:Int),(0:Int),(0:Int),([]:List Fl),(0:Nat),(0:Nat),u1,(0:Int),(0:Int)⟩⟩:FE))
 refine cZ ?_
 rfl
noncomputable def qu:=aZ Di 0 (be ED (cm ur Qm)) 9 [(0,20),(1,1)]
theorem Gw:aE Tryz.prog qu:=az (bi (f:=9) (k:=0) (ay Dh) XT (by rfl) (by rfl) adr) Dh
end Go.Proofs.Tryz
namespace Go.Proofs.Tryz
open Go Go.RowKit Go.Sy
open Go.Eng hiding ah
set_option maxRecDepth 1000000
set_option linter.unusedVariables false
set_option maxHeartbeats 4000000
theorem Jy {b x y:Bool} (h:(Bool.rec (motive:=fun _=>Bool) x y b)=true):(b=true∧y=true)∨(b=false∧x=true):=by cases b;exact .inr ⟨rfl,h⟩;exact .inl ⟨rfl,h⟩
def tK:XC:=(.aft (.seq (.seq (g_ 4 [p_ 0 23 (m_ 6),p_ 1 24 (m_ 1),p_ 2 25 (k_ 24),p_ 3 26 (.bin 3 0 (.t 23) (.t 25))]) (.cond (.t 26) .skip (.exit 2))) (.seq (.block 3 (.seq (g_ 14 [p_ 0 29 (m_ 1),p_ 1 30 (m_ 6),p_ 2 31 (.ixs 4 (.t 29) (.t 30)),p_ 3 32 (f_ 0 31),r_ 4 33 (l_ 32),p_ 5 34 (.bin 3 0 (.t 33) (i_ 8)),p_ 6 35 (m_ 34),am 7 36 35 false (m_ 1),am 8 37 35 false (m_ 6),am 9 38 35 false (.ixs 4 (.t 36) (.t 37)),am 10 39 35 false (f_ 0 38),aU 11 40 35 false (l_ 39),am 12 41 35 false (.bin 3 4 (.t 40) (i_ 12)),p_ 13 42 (.pick (.t 35) (.c (.bool true)) (.t 41))]) (.cond (.t 42) (g_ 6 [p_ 0 43 (m_ 5),p_ 1 44 (m_ 1),p_ 2 45 (m_ 6),p_ 3 46 (.ixs 4 (.t 44) (.t 45)),r_ 4 47 (.ld true 4 (.t 46)),c_ 5 48 10 [.t 43,.t 47]]) .skip))) (g_ 3 [p_ 0 27 (m_ 6),p_ 1 28 (.bin 0 0 (.t 27) (i_ 1)),p_ 2 6 (m_ 28)]))) [(0,[.can 0 [1,5,6]]),(2,[.can 0 [5]])])
def GN:XF:=.mk 103 (.one 4) (.seq (g_ 1 [p_ 0 4 (.mv (.c (.bool false)))]) (.seq (.seq (g_ 7 [p_ 0 9 (m_ 1),p_ 1 10 (k_ 9),p_ 2 11 (.bin 3 2 (.t 10) (i_ 80)),p_ 3 12 (m_ 11),da 4 13 12 false 8 [],am 5 14 12 false (.un 0 (.t 13)),p_ 6 15 (.pick (.t 12) (.c (.bool true)) (.t 14))]) (.cond (.t 15) (.seq (g_ 2 [c_ 0 16 8 [],p_ 1 4 (m_ 16)]) .ret) .skip)) (.seq (g_ 7 [p_ 0 17 (m_ 0),p_ 1 18 (.bin 0 4 (.t 17) (i_ 4)),p_ 2 19 (.bin 0 0 (.t 18) (i_ 4)),p_ 3 20 (.bin 0 4 (.t 19) (i_ 4)),p_ 4 21 (.bin 0 0 (i_ 1) (.t 20)),c_ 5 22 9 [.t 21,i_ 0],p_ 6 5 (m_ 22)]) (.seq (.seq (g_ 1 [p_ 0 6 (.mv (i_ 0))]) (.block 2 (.pre [.can 0 [1,5,6],.up 6,.can 0 [1,5,6]] (.inv 0 tK)))) (.seq (g_ 2 [p_ 0 49 (m_ 5),c_ 1 50 15 [.t 49,i_ 20]]) (.seq (g_ 8 [p_ 0 51 (m_ 5),p_ 1 52 (n_ 51),p_ 2 53 (f_ 0 52),r_ 3 54 (l_ 53),p_ 4 55 (.ixs 1 (.t 54) (i_ 0)),r_ 5 56 (l_ 55),c_ 6 57 13 [.t 56],p_ 7 7 (m_ 57)]) (.seq (.seq (g_ 1 [p_ 0 8 (.mv (i_ 0))]) (.block 4 (.loop [4,5,7,8,58,59,60,61,62,63,64,65,66,67,68,69,70,71,72,73,74,75,76,77,78,79,80,81,82,83,84,85,86,87,88,89,90,91,92,93,94,95,96,97,98,99,100,101,102] (.seq (.seq (g_ 7 [p_ 0 58 (m_ 8),p_ 1 59 (m_ 5),p_ 2 60 (n_ 59),p_ 3 61 (f_ 0 60),r_ 4 62 (l_ 61),p_ 5 63 (k_ 62),p_ 6 64 (.bin 3 0 (.t 58) (.t 63))]) (.cond (.t 64) .skip (.exit 4))) (.seq (.block 5 (.seq (g_ 36 [p_ 0 67 (m_ 5),p_ 1 68 (n_ 67),p_ 2 69 (f_ 0 68),r_ 3 70 (l_ 69),p_ 4 71 (m_ 8),p_ 5 72 (.ixs 1 (.t 70) (.t 71)),r_ 6 73 (l_ 72),c_ 7 74 12 [.t 73],p_ 8 75 (m_ 7),p_ 9 76 (k_ 75),p_ 10 77 (.bin 3 5 (.t 74) (.t 76)),p_ 11 78 (m_ 77),am 12 79 78 false (m_ 5),am 13 80 78 false (n_ 79),am 14 81 78 false (f_ 0 80),aU 15 82 78 false (l_ 81),am 16 83 78 false (m_ 8),am 17 84 78 false (.ixs 1 (.t 82) (.t 83)),aU 18 85 78 false (l_ 84),da 19 86 78 false 16 [.t 85],am 20 87 78 false (.fld false 1 1 (.t 86)),am 21 88 78 false (.bin 3 5 (.t 87) (.c (.int 3 (.ofNat 1)))),p_ 22 89 (.pick (.t 78) (.c (.bool true)) (.t 88)),p_ 23 90 (m_ 89),am 24 91 90 false (m_ 5),am 25 92 90 false (n_ 91),am 26 93 90 false (f_ 0 92),aU 27 94 90 false (l_ 93),am 28 95 90 false (m_ 8),am 29 96 90 false (.ixs 1 (.t 94) (.t 95)),aU 30 97 90 false (l_ 96),da 31 98 90 false 13 [.t 97],am 32 99 90 false (m_ 7),da 33 100 90 false 14 [.t 98,.t 99],am 34 101 90 false (.un 0 (.t 100)),p_ 35 102 (.pick (.t 90) (.c (.bool true)) (.t 101))]) (.cond (.t 102) (.seq (g_ 1 [p_ 0 4 (.mv (.c (.bool false)))]) .ret) .skip))) (g_ 3 [p_ 0 65 (m_ 8),p_ 1 66 (.bin 0 0 (.t 65) (i_ 1)),p_ 2 8 (m_ 66)])))))) (.seq (g_ 1 [p_ 0 4 (.mv (.c (.bool true)))]) .ret))))))))
theorem Me:aW Tryz.prog 5 GN=true:=by kernel_rfl
structure gM where
 h:Value
 l:List Sg
 f:G1
 i:Int
structure Nr where
 f:G1
def uQ (p:gM) (r:Nr):Prop:=ef r.f∧r.f.s0.l.length≤r.f.cnt∧0≤r.f.cnt∧r.f.cnt≤80∧0≤r.f.now∧r.f.now≤10*80∧(r.f.L.length:Int)≤440*80
noncomputable def qP (p:gM):IL:=((.cons 6 (.sy (.int 0 p.i)) (.cons 5 (.ptr 0 0) (.cons 1 (.sy (.imm p.h 4 Sg p.l encS)) .nil))),(cN p.f (p.f.L.length - p.f.a) p.f.s0.l.length),14)
noncomputable def wt (p:gM) (K:KC):Bool:=ah fun r:Nr=>iP (uQ p r) (K 2 (.cons 5 (.ptr 0 0) .nil) (cN r.f (r.f.L.length - r.f.a) r.f.s0.l.length) 14) true
def gU (p:gM):Prop:=ef p.f∧0≤p.i∧p.i≤(p.l.length:Int)∧p.l.length≤80∧p.f.s0.l.length≤p.f.cnt∧0≤p.f.cnt∧p.f.cnt≤p.i∧0≤p.f.now∧p.f.now≤10*p.i∧(p.f.L.length:Int)≤440*p.i
theorem aai {p:gM} {K:KC} (hK:wt p K=true) (r:Nr) (h:uQ p r):K 2 (.cons 5 (.ptr 0 0) .nil) (cN r.f (r.f.L.length - r.f.a) r.f.s0.l.length) 14=true:=aA h (au hK r)
noncomputable def Hd (p:gM) (K:KC):Bool:=ac (aF (gU p)) (wt p K)
def qz (p:gM):Nat:=((p.l.length:Int) - p.i).toNat
structure gL where
 h:Value
 l:List Sg
 f:G2
 i:Int
structure Nq where
 f:G2
def uP (p:gL) (r:Nq):Prop:=dH r.f∧r.f.s0.l.length≤r.f.cnt∧0≤r.f.cnt∧r.f.cnt≤80∧0≤r.f.now∧r.f.now≤10*80∧(r.f.L.length:Int)≤440*80
noncomputable def qO (p:gL):IL:=((.cons 6 (.sy (.int 0 p.i)) (.cons 5 (.ptr 0 0) (.cons 1 (.sy (.imm p.h 4 Sg p.l encS)) .nil))),(cd p.f (p.f.L.length - p.f.a) p.f.s0.l.length p.f.s1.l.length),24)
noncomputable def wq (p:gL) (K:KC):Bool:=ah fun r:Nq=>iP (uP p r) (K 2 (.cons 5 (.ptr 0 0) .nil) (cd r.f (r.f.L.length - r.f.a) r.f.s0.l.length r.f.s1.l.length) 24) true
def gT (p:gL):Prop:=dH p.f∧0≤p.i∧p.i≤(p.l.length:Int)∧p.l.length≤80∧p.f.s0.l.length≤p.f.cnt∧0≤p.f.cnt∧p.f.cnt≤p.i∧0≤p.f.now∧p.f.now≤10*p.i∧(p.f.L.length:Int)≤440*p.i
theorem aah {p:gL} {K:KC} (hK:wq p K=true) (r:Nq) (h:uP p r):K 2 (.cons 5 (.ptr 0 0) .nil) (cd r.f (r.f.L.length - r.f.a) r.f.s0.l.length r.f.s1.l.length) 24=true:=aA h (au hK r)
noncomputable def Hc (p:gL) (K:KC):Bool:=ac (aF (gT p)) (wq p K)
def qy (p:gL):Nat:=((p.l.length:Int) - p.i).toNat
structure gJ where
 h:Value
 l:List Sg
 f:G3
 i:Int
structure Np where
 f:G3
def uO (p:gJ) (r:Np):Prop:=dD r.f∧r.f.s0.l.length≤r.f.cnt∧0≤r.f.cnt∧r.f.cnt≤80∧0≤r.f.now∧r.f.now≤10*80∧(r.f.L.length:Int)≤440*80
noncomputable def qN (p:gJ):IL:=((.cons 6 (.sy (.int 0 p.i)) (.cons 5 (.ptr 0 0) (.cons 1 (.sy (.imm p.h 4 Sg p.l encS)) .nil))),(bP p.f (p.f.L.length - p.f.a) p.f.s0.l.length p.f.s1.l.length p.f.s2.l.length),34)
noncomputable def wo (p:gJ) (K:KC):Bool:=ah fun r:Np=>iP (uO p r) (K 2 (.cons 5 (.ptr 0 0) .nil) (bP r.f (r.f.L.length - r.f.a) r.f.s0.l.length r.f.s1.l.length r.f.s2.l.length) 34) true
def gS (p:gJ):Prop:=dD p.f∧0≤p.i∧p.i≤(p.l.length:Int)∧p.l.length≤80∧p.f.s0.l.length≤p.f.cnt∧0≤p.f.cnt∧p.f.cnt≤p.i∧0≤p.f.now∧p.f.now≤10*p.i∧(p.f.L.length:Int)≤440*p.i
theorem aag {p:gJ} {K:KC} (hK:wo p K=true) (r:Np) (h:uO p r):K 2 (.cons 5 (.ptr 0 0) .nil) (bP r.f (r.f.L.length - r.f.a) r.f.s0.l.length r.f.s1.l.length r.f.s2.l.length) 34=true:=aA h (au hK r)
noncomputable def Hb (p:gJ) (K:KC):Bool:=ac (aF (gS p)) (wo p K)
def qx (p:gJ):Nat:=((p.l.length:Int) - p.i).toNat
structure gI where
 h:Value
 l:List Sg
 f:G4
 i:Int
structure No where
 f:G4
def uN (p:gI) (r:No):Prop:=dy r.f∧r.f.s0.l.length≤r.f.cnt∧0≤r.f.cnt∧r.f.cnt≤80∧0≤r.f.now∧r.f.now≤10*80∧(r.f.L.length:Int)≤440*80
noncomputable def qM (p:gI):IL:=((.cons 6 (.sy (.int 0 p.i)) (.cons 5 (.ptr 0 0) (.cons 1 (.sy (.imm p.h 4 Sg p.l encS)) .nil))),(bG p.f (p.f.L.length - p.f.a) p.f.s0.l.length p.f.s1.l.length p.f.s2.l.length p.f.s3.l.length),44)
noncomputable def wn (p:gI) (K:KC):Bool:=ah fun r:No=>iP (uN p r) (K 2 (.cons 5 (.ptr 0 0) .nil) (bG r.f (r.f.L.length - r.f.a) r.f.s0.l.length r.f.s1.l.length r.f.s2.l.length r.f.s3.l.length) 44) true
def gR (p:gI):Prop:=dy p.f∧0≤p.i∧p.i≤(p.l.length:Int)∧p.l.length≤80∧p.f.s0.l.length≤p.f.cnt∧0≤p.f.cnt∧p.f.cnt≤p.i∧0≤p.f.now∧p.f.now≤10*p.i∧(p.f.L.length:Int)≤440*p.i
theorem aaf {p:gI} {K:KC} (hK:wn p K=true) (r:No) (h:uN p r):K 2 (.cons 5 (.ptr 0 0) .nil) (bG r.f (r.f.L.length - r.f.a) r.f.s0.l.length r.f.s1.l.length r.f.s2.l.length r.f.s3.l.length) 44=true:=aA h (au hK r)
noncomputable def Ha (p:gI) (K:KC):Bool:=ac (aF (gR p)) (wn p K)
def qw (p:gI):Nat:=((p.l.length:Int) - p.i).toNat
noncomputable def HN (S:SL) (M:T) (nx:Nat) (K:KC):Bool:=(Bool.rec (Bool.rec (Bool.rec (Bool.rec false (ax fun p:gI=>ac (aF ((S,M,nx)=qM p)) (Ha p K)) (Nat.beq (ca M 1) 4)) (ax fun p:gJ=>ac (aF ((S,M,nx)=qN p)) (Hb p K)) (Nat.beq (ca M 1) 3)) (ax fun p:gL=>ac (aF ((S,M,nx)=qO p)) (Hc p K)) (Nat.beq (ca M 1) 2)) (ax fun p:gM=>ac (aF ((S,M,nx)=qP p)) (Hd p K)) (Nat.beq (ca M 1) 1))
inductive A_calm where
 |v1 (p:gM)
 |v2 (p:gL)
 |v3 (p:gJ)
 |v4 (p:gI)
noncomputable def Up (q:A_calm):IL:=A_calm.casesOn q (fun p=>qP p) (fun p=>qO p) (fun p=>qN p) (fun p=>qM p)
def dk:A_calm→Nat
 |.v1 p=>qz p
 |.v2 p=>qy p
 |.v3 p=>qx p
 |.v4 p=>qw p
noncomputable def LA (q:A_calm) (K:KC):Bool:=A_calm.casesOn q (fun p=>Hd p K) (fun p=>Hc p K) (fun p=>Hb p K) (fun p=>Ha p K)
noncomputable def Fm (n:Nat) (K:KC):KC:=fun e S M nx=>Nat.casesOn e (ax fun q:A_calm=>ac (aF ((S,M,nx)=Up q∧dk q<n)) (LA q K)) (fun e2=>K (Nat.succ e2) S M nx)
noncomputable def eN (s:IL) (n:Nat) (K:KC):Bool:=ax fun q=>mP (s=Up q∧dk q<n) (LA q K)
theorem Jd {p q:gM} {K:KC} {s:IL} (hm:qz q<qz p) (hp:gU q) (hK:wt q K=true) (e:s=qP q):eN s (dk (.v1 p)) K=true:=aH (.v1 q) (bT ⟨e,hm⟩ (bT hp hK))
theorem Jc {p q:gL} {K:KC} {s:IL} (hm:qy q<qy p) (hp:gT q) (hK:wq q K=true) (e:s=qO q):eN s (dk (.v2 p)) K=true:=aH (.v2 q) (bT ⟨e,hm⟩ (bT hp hK))
theorem Jb {p q:gJ} {K:KC} {s:IL} (hm:qx q<qx p) (hp:gS q) (hK:wo q K=true) (e:s=qN q):eN s (dk (.v3 p)) K=true:=aH (.v3 q) (bT ⟨e,hm⟩ (bT hp hK))
theorem Ja {p q:gI} {K:KC} {s:IL} (hm:qw q<qw p) (hp:gR q) (hK:wn q K=true) (e:s=qM q):eN s (dk (.v4 p)) K=true:=aH (.v4 q) (bT ⟨e,hm⟩ (bT hp hK))
noncomputable def ij:gB:=fun j S M nx K=>(Bool.rec (false) (HN S M nx K) (Nat.beq j 0))
theorem abo (p:gM) (K:KC) (hpre:gU p) (hK:wt p K=true):(cC (bg qu) ij 600 tK (qP p).1 (qP p).2.1 (qP p).2.2 (Fm (dk (.v1 p)) K))=true:=by
 refine Eq.trans (b:=(iP (p.i<(p.l.length:Int)) (mP (0≤p.i∧p.i<(p.l.length:Int)) (ah fun x1:Sg=>iP (p.l[p.i.toNat]?=some x1) (iP (x1.k<(8:Int)) (mP (0≤p.i∧p.i<(p.l.length:Int)) (ah fun x2:Sg=>iP (p.l[p.i.toNat]?=some x2) (bf (([.ptr 0 0,.agg [.sy (.int 0 x2.k),.sy (.int 0 x2.x),.sy (.int 0 x2.y),.sy (.int 0 x2.i)]],(cN p.f (p.f.L.length - p.f.a) p.f.s0.l.length),14)) tU kB cU fun p1 r1=>mP (aL 0 (p.i+(1:Int))) (eN ((.cons 6 (.sy (.int 0 (p.i+(1:Int)))) (.cons 5 (.ptr 0 0) (.cons 1 (.sy (.imm p.h 4 Sg p.l encS)) .nil))),(cN r1.f (r1.f.L.length - r1.f.a) r1.f.s0.l.length),14) (dk (.v1 p)) K)) true)) (mP (0≤p.i∧p.i<(p.l.length:Int)) (ah fun x3:Sg=>iP (p.l[p.i.toNat]?=some x3) (iP (x3.k=(12:Int)) (mP (0≤p.i∧p.i<(p.l.length:Int)) (ah fun x4:Sg=>iP (p.l[p.i.toNat]?=some x4) (bf (([.ptr 0 0,.agg [.sy (.int 0 x4.k),.sy (.int 0 x4.x),.sy (.int 0 x4.y),.sy (.int 0 x4.i)]],(cN p.f (p.f.L.length - p.f.a) p.f.s0.l.length),14)) tU kB cU fun p2 r2=>mP (aL 0 (p.i+(1:Int))) (eN ((.cons 6 (.sy (.int 0 (p.i+(1:Int)))) (.cons 5 (.ptr 0 0) (.cons 1 (.sy (.imm p.h 4 Sg p.l encS)) .nil))),(cN r2.f (r2.f.L.length - r2.f.a) r2.f.s0.l.length),14) (dk (.v1 p)) K)) true)) (mP (aL 0 (p.i+(1:Int))) (eN ((.cons 6 (.sy (.int 0 (p.i+(1:Int)))) (.cons 5 (.ptr 0 0) (.cons 1 (.sy (.imm p.h 4 Sg p.l encS)) .nil))),(cN p.f (p.f.L.length - p.f.a) p.f.s0.l.length),14) (dk (.v1 p)) K))) true))) true)) (K 2 (.cons 5 (.ptr 0 0) .nil) (cN p.f (p.f.L.length - p.f.a) p.f.s0.l.length) 14))) (by kernel_rfl) ?_
 dsimp only[gU]at hpre
 obtain⟨hinv,g1,g2,g3,g4,g5,g6,g7,g8,g9⟩:=hpre
 refine iI (fun hc1=> ?_) (fun hc1=> ?_)
 refine gy ?_
 refine aj (fun x1=> ?_)
 refine iI (fun hi2=> ?_) (fun _=>rfl)
 refine iI (fun hc3=> ?_) (fun hc3=> ?_)
 refine gy ?_
 refine aj (fun x2=> ?_)
 refine iI (fun hi4=> ?_) (fun _=>rfl)
 have k_x2:=congrArg Sg.k (akE ((by assumption:p.l[p.i.toNat]?=some x2).symm.trans (by assumption:p.l[p.i.toNat]?=some x1)))
 refine aB (⟨p.f,x2⟩:oI) rfl (by(try dsimp only[kB]);exact⟨hinv,by omega,by omega,by omega,by omega,by omega,by omega,by omega⟩) fun r1 hi5=> ?_
 dsimp only[cU]at hi5
 refine aQ ?_
 exact Jd (q:=⟨p.h,p.l,r1.f,p.i+(1:Int)⟩) (by dsimp only[qz];omega) (by dsimp only[gU];first|(exfalso;omega)|(obtain⟨z0,z1,z2,z3,z4,z5,z6⟩:=hi5;exact⟨z0,by omega,by omega,by omega,by omega,by omega,by omega,by omega,by omega,by omega⟩)) hK rfl
 refine gy ?_
 refine aj (fun x3=> ?_)
 refine iI (fun hi6=> ?_) (fun _=>rfl)
 have k_x3:=congrArg Sg.k (akE ((by assumption:p.l[p.i.toNat]?=some x3).symm.trans (by assumption:p.l[p.i.toNat]?=some x1)))
 refine iI (fun hc7=> ?_) (fun hc7=> ?_)
 refine gy ?_
 refine aj (fun x4=> ?_)
 refine iI (fun hi8=> ?_) (fun _=>rfl)
 have k_x4:=congrArg Sg.k (akE ((by assumption:p.l[p.i.toNat]?=some x4).symm.trans (by assumption:p.l[p.i.toNat]?=some x1)))
 refine aB (⟨p.f,x4⟩:oI) rfl (by(try dsimp only[kB]);exact⟨hinv,by omega,by omega,by omega,by omega,by omega,by omega,by omega⟩) fun r2 hi9=> ?_
 dsimp only[cU]at hi9
 refine aQ ?_
 exact Jd (q:=⟨p.h,p.l,r2.f,p.i+(1:Int)⟩) (by dsimp only[qz];omega) (by dsimp only[gU];first|(exfalso;omega)|(obtain⟨z0,z1,z2,z3,z4,z5,z6⟩:=hi9;exact⟨z0,by omega,by omega,by omega,by omega,by omega,by omega,by omega,by omega,by omega⟩)) hK rfl
 refine aQ ?_
 exact Jd (q:=⟨p.h,p.l,p.f,p.i+(1:Int)⟩) (by dsimp only[qz];omega) (by dsimp only[gU];first|(exfalso;omega)|exact⟨hinv,by omega,by omega,by omega,by omega,by omega,by omega,by omega,by omega,by omega⟩) hK rfl
 exact aai hK ⟨p.f⟩ (by dsimp only[uQ]<;>exact⟨hinv,by omega,by omega,by omega,by omega,by omega,by omega⟩)
theorem abn (p:gL) (K:KC) (hpre:gT p) (hK:wq p K=true):(cC (bg qu) ij 600 tK (qO p).1 (qO p).2.1 (qO p).2.2 (Fm (dk (.v2 p)) K))=true:=by
 refine Eq.trans (b:=(iP (p.i<(p.l.length:Int)) (mP (0≤p.i∧p.i<(p.l.length:Int)) (ah fun x1:Sg=>iP (p.l[p.i.toNat]?=some x1) (iP (x1.k<(8:Int)) (mP (0≤p.i∧p.i<(p.l.length:Int)) (ah fun x2:Sg=>iP (p.l[p.i.toNat]?=some x2) (bf (([.ptr 0 0,.agg [.sy (.int 0 x2.k),.sy (.int 0 x2.x),.sy (.int 0 x2.y),.sy (.int 0 x2.i)]],(cd p.f (p.f.L.length - p.f.a) p.f.s0.l.length p.f.s1.l.length),24)) tT kA cK fun p1 r1=>mP (aL 0 (p.i+(1:Int))) (eN ((.cons 6 (.sy (.int 0 (p.i+(1:Int)))) (.cons 5 (.ptr 0 0) (.cons 1 (.sy (.imm p.h 4 Sg p.l encS)) .nil))),(cd r1.f (r1.f.L.length - r1.f.a) r1.f.s0.l.length r1.f.s1.l.length),24) (dk (.v2 p)) K)) true)) (mP (0≤p.i∧p.i<(p.l.length:Int)) (ah fun x3:Sg=>iP (p.l[p.i.toNat]?=some x3) (iP (x3.k=(12:Int)) (mP (0≤p.i∧p.i<(p.l.length:Int)) (ah fun x4:Sg=>iP (p.l[p.i.toNat]?=some x4) (bf (([.ptr 0 0,.agg [.sy (.int 0 x4.k),.sy (.int 0 x4.x),.sy (.int 0 x4.y),.sy (.int 0 x4.i)]],(cd p.f (p.f.L.length - p.f.a) p.f.s0.l.length p.f.s1.l.length),24)) tT kA cK fun p2 r2=>mP (aL 0 (p.i+(1:Int))) (eN ((.cons 6 (.sy (.int 0 (p.i+(1:Int)))) (.cons 5 (.ptr 0 0) (.cons 1 (.sy (.imm p.h 4 Sg p.l encS)) .nil))),(cd r2.f (r2.f.L.length - r2.f.a) r2.f.s0.l.length r2.f.s1.l.length),24) (dk (.v2 p)) K)) true)) (mP (aL 0 (p.i+(1:Int))) (eN ((.cons 6 (.sy (.int 0 (p.i+(1:Int)))) (.cons 5 (.ptr 0 0) (.cons 1 (.sy (.imm p.h 4 Sg p.l encS)) .nil))),(cd p.f (p.f.L.length - p.f.a) p.f.s0.l.length p.f.s1.l.length),24) (dk (.v2 p)) K))) true))) true)) (K 2 (.cons 5 (.ptr 0 0) .nil) (cd p.f (p.f.L.length - p.f.a) p.f.s0.l.length p.f.s1.l.length) 24))) (by kernel_rfl) ?_
 dsimp only[gT]at hpre
 obtain⟨hinv,g1,g2,g3,g4,g5,g6,g7,g8,g9⟩:=hpre
 refine iI (fun hc1=> ?_) (fun hc1=> ?_)
 refine gy ?_
 refine aj (fun x1=> ?_)
 refine iI (fun hi2=> ?_) (fun _=>rfl)
 refine iI (fun hc3=> ?_) (fun hc3=> ?_)
 refine gy ?_
 refine aj (fun x2=> ?_)
 refine iI (fun hi4=> ?_) (fun _=>rfl)
 have k_x2:=congrArg Sg.k (akE ((by assumption:p.l[p.i.toNat]?=some x2).symm.trans (by assumption:p.l[p.i.toNat]?=some x1)))
 refine aB (⟨p.f,x2⟩:oH) rfl (by(try dsimp only[kA]);exact⟨hinv,by omega,by omega,by omega,by omega,by omega,by omega,by omega⟩) fun r1 hi5=> ?_
 dsimp only[cK]at hi5
 refine aQ ?_
 exact Jc (q:=⟨p.h,p.l,r1.f,p.i+(1:Int)⟩) (by dsimp only[qy];omega) (by dsimp only[gT];first|(exfalso;omega)|(obtain⟨z0,z1,z2,z3,z4,z5,z6⟩:=hi5;exact⟨z0,by omega,by omega,by omega,by omega,by omega,by omega,by omega,by omega,by omega⟩)) hK rfl
 refine gy ?_
 refine aj (fun x3=> ?_)
 refine iI (fun hi6=> ?_) (fun _=>rfl)
 have k_x3:=congrArg Sg.k (akE ((by assumption:p.l[p.i.toNat]?=some x3).symm.trans (by assumption:p.l[p.i.toNat]?=some x1)))
 refine iI (fun hc7=> ?_) (fun hc7=> ?_)
 refine gy ?_
 refine aj (fun x4=> ?_)
 refine iI (fun hi8=> ?_) (fun _=>rfl)
 have k_x4:=congrArg Sg.k (akE ((by assumption:p.l[p.i.toNat]?=some x4).symm.trans (by assumption:p.l[p.i.toNat]?=some x1)))
 refine aB (⟨p.f,x4⟩:oH) rfl (by(try dsimp only[kA]);exact⟨hinv,by omega,by omega,by omega,by omega,by omega,by omega,by omega⟩) fun r2 hi9=> ?_
 dsimp only[cK]at hi9
 refine aQ ?_
 exact Jc (q:=⟨p.h,p.l,r2.f,p.i+(1:Int)⟩) (by dsimp only[qy];omega) (by dsimp only[gT];first|(exfalso;omega)|(obtain⟨z0,z1,z2,z3,z4,z5,z6⟩:=hi9;exact⟨z0,by omega,by omega,by omega,by omega,by omega,by omega,by omega,by omega,by omega⟩)) hK rfl
 refine aQ ?_
 exact Jc (q:=⟨p.h,p.l,p.f,p.i+(1:Int)⟩) (by dsimp only[qy];omega) (by dsimp only[gT];first|(exfalso;omega)|exact⟨hinv,by omega,by omega,by omega,by omega,by omega,by omega,by omega,by omega,by omega⟩) hK rfl
 exact aah hK ⟨p.f⟩ (by dsimp only[uP]<;>exact⟨hinv,by omega,by omega,by omega,by omega,by omega,by omega⟩)
theorem abm (p:gJ) (K:KC) (hpre:gS p) (hK:wo p K=true):(cC (bg qu) ij 600 tK (qN p).1 (qN p).2.1 (qN p).2.2 (Fm (dk (.v3 p)) K))=true:=by
 refine Eq.trans (b:=(iP (p.i<(p.l.length:Int)) (mP (0≤p.i∧p.i<(p.l.length:Int)) (ah fun x1:Sg=>iP (p.l[p.i.toNat]?=some x1) (iP (x1.k<(8:Int)) (mP (0≤p.i∧p.i<(p.l.length:Int)) (ah fun x2:Sg=>iP (p.l[p.i.toNat]?=some x2) (bf (([.ptr 0 0,.agg [.sy (.int 0 x2.k),.sy (.int 0 x2.x),.sy (.int 0 x2.y),.sy (.int 0 x2.i)]],(bP p.f (p.f.L.length - p.f.a) p.f.s0.l.length p.f.s1.l.length p.f.s2.l.length),34)) tS kz cy fun p1 r1=>mP (aL 0 (p.i+(1:Int))) (eN ((.cons 6 (.sy (.int 0 (p.i+(1:Int)))) (.cons 5 (.ptr 0 0) (.cons 1 (.sy (.imm p.h 4 Sg p.l encS)) .nil))),(bP r1.f (r1.f.L.length - r1.f.a) r1.f.s0.l.length r1.f.s1.l.length r1.f.s2.l.length),34) (dk (.v3 p)) K)) true)) (mP (0≤p.i∧p.i<(p.l.length:Int)) (ah fun x3:Sg=>iP (p.l[p.i.toNat]?=some x3) (iP (x3.k=(12:Int)) (mP (0≤p.i∧p.i<(p.l.length:Int)) (ah fun x4:Sg=>iP (p.l[p.i.toNat]?=some x4) (bf (([.ptr 0 0,.agg [.sy (.int 0 x4.k),.sy (.int 0 x4.x),.sy (.int 0 x4.y),.sy (.int 0 x4.i)]],(bP p.f (p.f.L.length - p.f.a) p.f.s0.l.length p.f.s1.l.length p.f.s2.l.length),34)) tS kz cy fun p2 r2=>mP (aL 0 (p.i+(1:Int))) (eN ((.cons 6 (.sy (.int 0 (p.i+(1:Int)))) (.cons 5 (.ptr 0 0) (.cons 1 (.sy (.imm p.h 4 Sg p.l encS)) .nil))),(bP r2.f (r2.f.L.length - r2.f.a) r2.f.s0.l.length r2.f.s1.l.length r2.f.s2.l.length),34) (dk (.v3 p)) K)) true)) (mP (aL 0 (p.i+(1:Int))) (eN ((.cons 6 (.sy (.int 0 (p.i+(1:Int)))) (.cons 5 (.ptr 0 0) (.cons 1 (.sy (.imm p.h 4 Sg p.l encS)) .nil))),(bP p.f (p.f.L.length - p.f.a) p.f.s0.l.length p.f.s1.l.length p.f.s2.l.length),34) (dk (.v3 p)) K))) true))) true)) (K 2 (.cons 5 (.ptr 0 0) .nil) (bP p.f (p.f.L.length - p.f.a) p.f.s0.l.length p.f.s1.l.length p.f.s2.l.length) 34))) (by kernel_rfl) ?_
 dsimp only[gS]at hpre
 obtain⟨hinv,g1,g2,g3,g4,g5,g6,g7,g8,g9⟩:=hpre
 refine iI (fun hc1=> ?_) (fun hc1=> ?_)
 refine gy ?_
 refine aj (fun x1=> ?_)
 refine iI (fun hi2=> ?_) (fun _=>rfl)
 refine iI (fun hc3=> ?_) (fun hc3=> ?_)
 refine gy ?_
 refine aj (fun x2=> ?_)
 refine iI (fun hi4=> ?_) (fun _=>rfl)
 have k_x2:=congrArg Sg.k (akE ((by assumption:p.l[p.i.toNat]?=some x2).symm.trans (by assumption:p.l[p.i.toNat]?=some x1)))
 refine aB (⟨p.f,x2⟩:oG) rfl (by(try dsimp only[kz]);exact⟨hinv,by omega,by omega,by omega,by omega,by omega,by omega,by omega⟩) fun r1 hi5=> ?_
 dsimp only[cy]at hi5
 refine aQ ?_
 exact Jb (q:=⟨p.h,p.l,r1.f,p.i+(1:Int)⟩) (by dsimp only[qx];omega) (by dsimp only[gS];first|(exfalso;omega)|(obtain⟨z0,z1,z2,z3,z4,z5,z6⟩:=hi5;exact⟨z0,by omega,by omega,by omega,by omega,by omega,by omega,by omega,by omega,by omega⟩)) hK rfl
 refine gy ?_
 refine aj (fun x3=> ?_)
 refine iI (fun hi6=> ?_) (fun _=>rfl)
 have k_x3:=congrArg Sg.k (akE ((by assumption:p.l[p.i.toNat]?=some x3).symm.trans (by assumption:p.l[p.i.toNat]?=some x1)))
 refine iI (fun hc7=> ?_) (fun hc7=> ?_)
 refine gy ?_
 refine aj (fun x4=> ?_)
 refine iI (fun hi8=> ?_) (fun _=>rfl)
 have k_x4:=congrArg Sg.k (akE ((by assumption:p.l[p.i.toNat]?=some x4).symm.trans (by assumption:p.l[p.i.toNat]?=some x1)))
 refine aB (⟨p.f,x4⟩:oG) rfl (by(try dsimp only[kz]);exact⟨hinv,by omega,by omega,by omega,by omega,by omega,by omega,by omega⟩) fun r2 hi9=> ?_
 dsimp only[cy]at hi9
 refine aQ ?_
 exact Jb (q:=⟨p.h,p.l,r2.f,p.i+(1:Int)⟩) (by dsimp only[qx];omega) (by dsimp only[gS];first|(exfalso;omega)|(obtain⟨z0,z1,z2,z3,z4,z5,z6⟩:=hi9;exact⟨z0,by omega,by omega,by omega,by omega,by omega,by omega,by omega,by omega,by omega⟩)) hK rfl
 refine aQ ?_
 exact Jb (q:=⟨p.h,p.l,p.f,p.i+(1:Int)⟩) (by dsimp only[qx];omega) (by dsimp only[gS];first|(exfalso;omega)|exact⟨hinv,by omega,by omega,by omega,by omega,by omega,by omega,by omega,by omega,by omega⟩) hK rfl
 exact aag hK ⟨p.f⟩ (by dsimp only[uO]<;>exact⟨hinv,by omega,by omega,by omega,by omega,by omega,by omega⟩)
theorem abl (p:gI) (K:KC) (hpre:gR p) (hK:wn p K=true):(cC (bg qu) ij 600 tK (qM p).1 (qM p).2.1 (qM p).2.2 (Fm (dk (.v4 p)) K))=true:=by
 refine Eq.trans (b:=(iP (p.i<(p.l.length:Int)) (mP (0≤p.i∧p.i<(p.l.length:Int)) (ah fun x1:Sg=>iP (p.l[p.i.toNat]?=some x1) (iP (x1.k<(8:Int)) (mP (0≤p.i∧p.i<(p.l.length:Int)) (ah fun x2:Sg=>iP (p.l[p.i.toNat]?=some x2) (bf (([.ptr 0 0,.agg [.sy (.int 0 x2.k),.sy (.int 0 x2.x),.sy (.int 0 x2.y),.sy (.int 0 x2.i)]],(bG p.f (p.f.L.length - p.f.a) p.f.s0.l.length p.f.s1.l.length p.f.s2.l.length p.f.s3.l.length),44)) tR ky ci fun p1 r1=>mP (aL 0 (p.i+(1:Int))) (eN ((.cons 6 (.sy (.int 0 (p.i+(1:Int)))) (.cons 5 (.ptr 0 0) (.cons 1 (.sy (.imm p.h 4 Sg p.l encS)) .nil))),(bG r1.f (r1.f.L.length - r1.f.a) r1.f.s0.l.length r1.f.s1.l.length r1.f.s2.l.length r1.f.s3.l.length),44) (dk (.v4 p)) K)) true)) (mP (0≤p.i∧p.i<(p.l.length:Int)) (ah fun x3:Sg=>iP (p.l[p.i.toNat]?=some x3) (iP (x3.k=(12:Int)) (mP (0≤p.i∧p.i<(p.l.length:Int)) (ah fun x4:Sg=>iP (p.l[p.i.toNat]?=some x4) (bf (([.ptr 0 0,.agg [.sy (.int 0 x4.k),.sy (.int 0 x4.x),.sy (.int 0 x4.y),.sy (.int 0 x4.i)]],(bG p.f (p.f.L.length - p.f.a) p.f.s0.l.length p.f.s1.l.length p.f.s2.l.length p.f.s3.l.length),44)) tR ky ci fun p2 r2=>mP (aL 0 (p.i+(1:Int))) (eN ((.cons 6 (.sy (.int 0 (p.i+(1:Int)))) (.cons 5 (.ptr 0 0) (.cons 1 (.sy (.imm p.h 4 Sg p.l encS)) .nil))),(bG r2.f (r2.f.L.length - r2.f.a) r2.f.s0.l.length r2.f.s1.l.length r2.f.s2.l.length r2.f.s3.l.length),44) (dk (.v4 p)) K)) true)) (mP (aL 0 (p.i+(1:Int))) (eN ((.cons 6 (.sy (.int 0 (p.i+(1:Int)))) (.cons 5 (.ptr 0 0) (.cons 1 (.sy (.imm p.h 4 Sg p.l encS)) .nil))),(bG p.f (p.f.L.length - p.f.a) p.f.s0.l.length p.f.s1.l.length p.f.s2.l.length p.f.s3.l.length),44) (dk (.v4 p)) K))) true))) true)) (K 2 (.cons 5 (.ptr 0 0) .nil) (bG p.f (p.f.L.length - p.f.a) p.f.s0.l.length p.f.s1.l.length p.f.s2.l.length p.f.s3.l.length) 44))) (by kernel_rfl) ?_
 dsimp only[gR]at hpre
 obtain⟨hinv,g1,g2,g3,g4,g5,g6,g7,g8,g9⟩:=hpre
 refine iI (fun hc1=> ?_) (fun hc1=> ?_)
 refine gy ?_
 refine aj (fun x1=> ?_)
 refine iI (fun hi2=> ?_) (fun _=>rfl)
 refine iI (fun hc3=> ?_) (fun hc3=> ?_)
 refine gy ?_
 refine aj (fun x2=> ?_)
 refine iI (fun hi4=> ?_) (fun _=>rfl)
 have k_x2:=congrArg Sg.k (akE ((by assumption:p.l[p.i.toNat]?=some x2).symm.trans (by assumption:p.l[p.i.toNat]?=some x1)))
 refine aB (⟨p.f,x2⟩:oF) rfl (by(try dsimp only[ky]);exact⟨hinv,by omega,by omega,by omega,by omega,by omega,by omega,by omega⟩) fun r1 hi5=> ?_
 dsimp only[ci]at hi5
 refine aQ ?_
 exact Ja (q:=⟨p.h,p.l,r1.f,p.i+(1:Int)⟩) (by dsimp only[qw];omega) (by dsimp only[gR];first|(exfalso;omega)|(obtain⟨z0,z1,z2,z3,z4,z5,z6⟩:=hi5;exact⟨z0,by omega,by omega,by omega,by omega,by omega,by omega,by omega,by omega,by omega⟩)) hK rfl
 refine gy ?_
 refine aj (fun x3=> ?_)
 refine iI (fun hi6=> ?_) (fun _=>rfl)
 have k_x3:=congrArg Sg.k (akE ((by assumption:p.l[p.i.toNat]?=some x3).symm.trans (by assumption:p.l[p.i.toNat]?=some x1)))
 refine iI (fun hc7=> ?_) (fun hc7=> ?_)
 refine gy ?_
 refine aj (fun x4=> ?_)
 refine iI (fun hi8=> ?_) (fun _=>rfl)
 have k_x4:=congrArg Sg.k (akE ((by assumption:p.l[p.i.toNat]?=some x4).symm.trans (by assumption:p.l[p.i.toNat]?=some x1)))
 refine aB (⟨p.f,x4⟩:oF) rfl (by(try dsimp only[ky]);exact⟨hinv,by omega,by omega,by omega,by omega,by omega,by omega,by omega⟩) fun r2 hi9=> ?_
 dsimp only[ci]at hi9
 refine aQ ?_
 exact Ja (q:=⟨p.h,p.l,r2.f,p.i+(1:Int)⟩) (by dsimp only[qw];omega) (by dsimp only[gR];first|(exfalso;omega)|(obtain⟨z0,z1,z2,z3,z4,z5,z6⟩:=hi9;exact⟨z0,by omega,by omega,by omega,by omega,by omega,by omega,by omega,by omega,by omega⟩)) hK rfl
 refine aQ ?_
 exact Ja (q:=⟨p.h,p.l,p.f,p.i+(1:Int)⟩) (by dsimp only[qw];omega) (by dsimp only[gR];first|(exfalso;omega)|exact⟨hinv,by omega,by omega,by omega,by omega,by omega,by omega,by omega,by omega,by omega⟩) hK rfl
 exact aaf hK ⟨p.f⟩ (by dsimp only[uN]<;>exact⟨hinv,by omega,by omega,by omega,by omega,by omega,by omega⟩)
theorem aff:dp Tryz.prog 103 0 ij true 0 tK:=by
 refine gD (lf:=600) bD (ay Gw) (by rfl) Up dk LA (fun b j x h=>by cases h) (fun S M nx K h=> ?_) (fun p K h=> ?_)
 ·have h:HN S M nx K=true:=h
  unfold HN at h
  rcases Jy h with⟨_,h⟩|⟨_,h⟩
  ·obtain⟨p,h⟩:=bJ h;exact⟨.v1 p,(ae h).1,(ae h).2⟩
  rcases Jy h with⟨_,h⟩|⟨_,h⟩
  ·obtain⟨p,h⟩:=bJ h;exact⟨.v2 p,(ae h).1,(ae h).2⟩
  rcases Jy h with⟨_,h⟩|⟨_,h⟩
  ·obtain⟨p,h⟩:=bJ h;exact⟨.v3 p,(ae h).1,(ae h).2⟩
  rcases Jy h with⟨_,h⟩|⟨_,h⟩
  ·obtain⟨p,h⟩:=bJ h;exact⟨.v4 p,(ae h).1,(ae h).2⟩
  cases h
 ·cases p with
  |v1 p=>have h:Hd p K=true:=h;exact abo p K (ae h).1 (ae h).2
  |v2 p=>have h:Hc p K=true:=h;exact abn p K (ae h).1 (ae h).2
  |v3 p=>have h:Hb p K=true:=h;exact abm p K (ae h).1 (ae h).2
  |v4 p=>have h:Ha p K=true:=h;exact abl p K (ae h).1 (ae h).2
structure Bo where
 n:Int
 h:Value
 l:List Sg
noncomputable def tq (p:Bo):IE:=([.sy (.int 0 p.n),.sy (.imm p.h 4 Sg p.l encS)],.leaf,0)
noncomputable def Cq (p:Bo) (K:KE):Bool:=K (.bool true) .leaf 0
theorem UE (p:Bo) (K:KE) (hK:Cq p K=true):(aY 0 (bg qu) ij 600 GN (tq p).1 (tq p).2.1 (tq p).2.2 K)=true:=by
 refine Eq.trans (b:=(let z0:Bool:=(K (.bool false) .leaf 0);let z1:Bool:=(K (.bool true) .leaf 0);let y0:Int:=((Int.tmod p.n (4:Int))+(4:Int));iP ((80:Int)<(p.l.length:Int)) (ax fun p1:zF=>mP (([],.leaf,0)=ua p1) z1) (ax fun p2:zF=>mP (([],.leaf,0)=ua p2) (mP ((4:Int)≠0) (mP (aL 0 y0) (mP ((4:Int)≠0) (mP (aL 0 ((1:Int)+(Int.tmod y0 (4:Int)))) (ax fun p3:mN=>mP (([.sy (.int 0 ((1:Int)+(Int.tmod y0 (4:Int)))),cE],.leaf,0)=ED p3) (mP (ur p3) (ac (ah fun r22:Lh=>iP (VJ p3 r22) (bf (((.cons 6 (.sy (.int 0 0)) (.cons 5 (.ptr 0 0) (.cons 1 (.sy (.imm p.h 4 Sg p.l encS)) .nil))),(cN r22.f (r22.f.L.length - r22.f.a) r22.f.s0.l.length),14)) qP gU uQ fun p58 r23=>bf (([.ptr 0 0,cx],(cN r23.f (r23.f.L.length - r23.f.a) r23.f.s0.l.length),14)) vT pd si fun p59 r24=>bf (([.ptr 0 0],(dI r24.f.s0.l r24.f.s0.com r24.f.c0),10)) tZ kG nu fun p60 r25=>ax fun p61:dq=>mP (([.agg bu],.leaf,0)=de p61) (ax fun p62:dq=>mP (([.agg bu],.leaf,0)=de p62) (iP (¬p60.com=(r25.o.length:Int)) z0 (ax fun p63:dq=>mP (([.agg bu],.leaf,0)=de p63) (bf (([.ptr 0 0],(dI p60.l p60.com p60.c0),10)) tZ kG nu fun p64 r26=>ax fun p65:ee=>mP (([.sy (.imm r26.h 18 Ke r26.o ai),.sy (.imm r25.h 18 Ke r25.o ai),.fn 37 []],.leaf,0)=jy p65) (mP (cW p65) z1)))))) true) (ac (ah fun r16:FG=>iP (Qd p3 r16) (bf (((.cons 6 (.sy (.int 0 0)) (.cons 5 (.ptr 0 0) (.cons 1 (.sy (.imm p.h 4 Sg p.l encS)) .nil))),(cd r16.f (r16.f.L.length - r16.f.a) r16.f.s0.l.length r16.f.s1.l.length),24)) qO gT uP fun p45 r17=>bf (([.ptr 0 0,cx],(cd r17.f (r17.f.L.length - r17.f.a) r17.f.s0.l.length r17.f.s1.l.length),24)) vS pc sg fun p46 r18=>bf (([.ptr 0 0],(dB r18.f.s0.l r18.f.s0.com r18.f.c0 r18.f.c1),10)) tY kF nt fun p47 r19=>ax fun p48:dq=>mP (([.agg bu],.leaf,0)=de p48) (ax fun p49:dq=>mP (([.agg bu],.leaf,0)=de p49) (iP (¬p47.com=(r19.o.length:Int)) z0 (ax fun p50:dq=>mP (([.agg bu],.leaf,0)=de p50) (bf (([.ptr 0 0],(dB p47.l p47.com p47.c0 p47.c1),10)) tY kF nt fun p51 r20=>ax fun p52:ee=>mP (([.sy (.imm r20.h 18 Ke r20.o ai),.sy (.imm r19.h 18 Ke r19.o ai),.fn 37 []],.leaf,0)=jy p52) (mP (cW p52) (ax fun p53:bB=>mP (([.agg [.sy (.int 1 1),bj]],.leaf,0)=dc p53) (mP (bh p53) (ax fun p54:bB=>mP (([.agg [.sy (.int 1 1),bj]],.leaf,0)=dc p54) (mP (bh p54) (iP (¬r18.f.s1.com=(r19.o.length:Int)) z0 (ax fun p55:bB=>mP (([.agg [.sy (.int 1 1),bj]],.leaf,0)=dc p55) (mP (bh p55) (bf (([.ptr 0 0],(dJ r18.f.s1.l r18.f.s1.com 0 0 1),10)) zp rO uJ fun p56 r21=>ax fun p57:ee=>mP (([.sy (.imm r21.h 18 Ke r21.o ai),.sy (.imm r19.h 18 Ke r19.o ai),.fn 37 []],.leaf,0)=jy p57) (mP (cW p57) z1))))))))))))))) true) (ac (ah fun r9:FF=>iP (Qc p3 r9) (bf (((.cons 6 (.sy (.int 0 0)) (.cons 5 (.ptr 0 0) (.cons 1 (.sy (.imm p.h 4 Sg p.l encS)) .nil))),(bP r9.f (r9.f.L.length - r9.f.a) r9.f.s0.l.length r9.f.s1.l.length r9.f.s2.l.length),34)) qN gS uO fun p27 r10=>bf (([.ptr 0 0,cx],(bP r10.f (r10.f.L.length - r10.f.a) r10.f.s0.l.length r10.f.s1.l.length r10.f.s2.l.length),34)) vR pb rZ fun p28 r11=>bf (([.ptr 0 0],(dA r11.f.s0.l r11.f.s0.com r11.f.c0 r11.f.c1 r11.f.c2),10)) tW kD nq fun p29 r12=>ax fun p30:dq=>mP (([.agg bu],.leaf,0)=de p30) (ax fun p31:dq=>mP (([.agg bu],.leaf,0)=de p31) (iP (¬p29.com=(r12.o.length:Int)) z0 (ax fun p32:dq=>mP (([.agg bu],.leaf,0)=de p32) (bf (([.ptr 0 0],(dA p29.l p29.com p29.c0 p29.c1 p29.c2),10)) tW kD nq fun p33 r13=>ax fun p34:ee=>mP (([.sy (.imm r13.h 18 Ke r13.o ai),.sy (.imm r12.h 18 Ke r12.o ai),.fn 37 []],.leaf,0)=jy p34) (mP (cW p34) (ax fun p35:bB=>mP (([.agg [.sy (.int 1 1),bj]],.leaf,0)=dc p35) (mP (bh p35) (ax fun p36:bB=>mP (([.agg [.sy (.int 1 1),bj]],.leaf,0)=dc p36) (mP (bh p36) (iP (¬r11.f.s1.com=(r12.o.length:Int)) z0 (ax fun p37:bB=>mP (([.agg [.sy (.int 1 1),bj]],.leaf,0)=dc p37) (mP (bh p37) (bf (([.ptr 0 0],(dm r11.f.s1.l r11.f.s1.com 0 0 0 1),10)) tX kE nr fun p38 r14=>ax fun p39:ee=>mP (([.sy (.imm r14.h 18 Ke r14.o ai),.sy (.imm r12.h 18 Ke r12.o ai),.fn 37 []],.leaf,0)=jy p39) (mP (cW p39) (ax fun p40:bB=>mP (([.agg [.sy (.int 1 2),bj]],.leaf,0)=dc p40) (mP (bh p40) (ax fun p41:bB=>mP (([.agg [.sy (.int 1 2),bj]],.leaf,0)=dc p41) (mP (bh p41) (iP (¬r11.f.s2.com=(r12.o.length:Int)) z0 (ax fun p42:bB=>mP (([.agg [.sy (.int 1 2),bj]],.leaf,0)=dc p42) (mP (bh p42) (bf (([.ptr 0 0],(dm r11.f.s2.l r11.f.s2.com 0 0 0 2),10)) tX kE nr fun p43 r15=>ax fun p44:ee=>mP (([.sy (.imm r15.h 18 Ke r15.o ai),.sy (.imm r12.h 18 Ke r12.o ai),.fn 37 []],.leaf,0)=jy p44) (mP (cW p44) z1)))))))))))))))))))))))) true) (ah fun r1:FE=>iP (Qb p3 r1) (bf (((.cons 6 (.sy (.int 0 0)) (.cons 5 (.ptr 0 0) (.cons 1 (.sy (.imm p.h 4 Sg p.l encS)) .nil))),(bG r1.f (r1.f.L.length - r1.f.a) r1.f.s0.l.length r1.f.s1.l.length r1.f.s2.l.length r1.f.s3.l.length),44)) qM gR uN fun p4 r2=>bf (([.ptr 0 0,cx],(bG r2.f (r2.f.L.length - r2.f.a) r2.f.s0.l.length r2.f.s1.l.length r2.f.s2.l.length r2.f.s3.l.length),44)) vQ pa rY fun p5 r3=>bf (([.ptr 0 0],(dz r3.f.s0.l r3.f.s0.com r3.f.c0 r3.f.c1 r3.f.c2 r3.f.c3),10)) tV kC np fun p6 r4=>ax fun p7:dq=>mP (([.agg bu],.leaf,0)=de p7) (ax fun p8:dq=>mP (([.agg bu],.leaf,0)=de p8) (iP (¬p6.com=(r4.o.length:Int)) z0 (ax fun p9:dq=>mP (([.agg bu],.leaf,0)=de p9) (bf (([.ptr 0 0],(dz p6.l p6.com p6.c0 p6.c1 p6.c2 p6.c3),10)) tV kC np fun p10 r5=>ax fun p11:ee=>mP (([.sy (.imm r5.h 18 Ke r5.o ai),.sy (.imm r4.h 18 Ke r4.o ai),.fn 37 []],.leaf,0)=jy p11) (mP (cW p11) (ax fun p12:bB=>mP (([.agg [.sy (.int 1 1),bj]],.leaf,0)=dc p12) (mP (bh p12) (ax fun p13:bB=>mP (([.agg [.sy (.int 1 1),bj]],.leaf,0)=dc p13) (mP (bh p13) (iP (¬r3.f.s1.com=(r4.o.length:Int)) z0 (ax fun p14:bB=>mP (([.agg [.sy (.int 1 1),bj]],.leaf,0)=dc p14) (mP (bh p14) (bf (([.ptr 0 0],(cV r3.f.s1.l r3.f.s1.com 0 0 0 0 1),10)) qJ gQ jo fun p15 r6=>ax fun p16:ee=>mP (([.sy (.imm r6.h 18 Ke r6.o ai),.sy (.imm r4.h 18 Ke r4.o ai),.fn 37 []],.leaf,0)=jy p16) (mP (cW p16) (ax fun p17:bB=>mP (([.agg [.sy (.int 1 2),bj]],.leaf,0)=dc p17) (mP (bh p17) (ax fun p18:bB=>mP (([.agg [.sy (.int 1 2),bj]],.leaf,0)=dc p18) (mP (bh p18) (iP (¬r3.f.s2.com=(r4.o.length:Int)) z0 (ax fun p19:bB=>mP (([.agg [.sy (.int 1 2),bj]],.leaf,0)=dc p19) (mP (bh p19) (bf (([.ptr 0 0],(cV r3.f.s2.l r3.f.s2.com 0 0 0 0 2),10)) qJ gQ jo fun p20 r7=>ax fun p21:ee=>mP (([.sy (.imm r7.h 18 Ke r7.o ai),.sy (.imm r4.h 18 Ke r4.o ai),.fn 37 []],.leaf,0)=jy p21) (mP (cW p21) (ax fun p22:bB=>mP (([.agg [.sy (.int 1 3),bj]],.leaf,0)=dc p22) (mP (bh p22) (ax fun p23:bB=>mP (([.agg [.sy (.int 1 3),bj]],.leaf,0)=dc p23) (mP (bh p23) (iP (¬r3.f.s3.com=(r4.o.length:Int)) z0 (ax fun p24:bB=>mP (([.agg [.sy (.int 1 3),bj]],.leaf,0)=dc p24) (mP (bh p24) (bf (([.ptr 0 0],(cV r3.f.s3.l r3.f.s3.com 0 0 0 0 3),10)) qJ gQ jo fun p25 r8=>ax fun p26:ee=>mP (([.sy (.imm r8.h 18 Ke r8.o ai),.sy (.imm r4.h 18 Ke r4.o ai),.fn 37 []],.leaf,0)=jy p26) (mP (cW p26) z1))))))))))))))))))))))))))))))))) true))))))))))))) (by kernel_rfl) ?_
 have t1:=BJ 4 (by decide) p.n
 have t2:=tmp 4 (by decide) (p.n.tmod 4+4) (by omega)
 refine iI (fun hc1=> ?_) (fun hc1=> ?_)
 refine aH ⟨⟩ ?_
 refine aK ?_
 exact hK
 refine aH ⟨⟩ ?_
 refine aK (mI (by decide) (aQ (mI (by decide) (aQ ?_))))
 refine aP (⟨(1:Int)+(Int.tmod ((Int.tmod p.n (4:Int))+(4:Int)) (4:Int))⟩:mN) rfl (by(try dsimp only[ur]);omega) ?_
 refine aG ?_ ?_
 refine aj (fun r22=> ?_)
 refine iI (p:=ef r22.f∧r22.f.cnt=0∧r22.f.now=0∧r22.f.L.length=0∧r22.f.s0.l.length=0) (fun hi2=> ?_) (fun _=>rfl)
 refine aB (⟨p.h,p.l,r22.f,(0:Int)⟩:gM) rfl (by(try dsimp only[gU]);obtain⟨z0,z1,z2,z3,z4⟩:=hi2;exact⟨z0,by omega,by omega,by omega,by omega,by omega,by omega,by omega,by omega,by omega⟩) fun r23 hi3=> ?_
 dsimp only[uQ]at hi3
 refine aB (⟨r23.f⟩:nN) rfl (by(try dsimp only[pd]);obtain⟨z0,z1,z2,z3,z4,z5,z6⟩:=hi3;exact⟨z0,by omega,by omega,by omega,by omega⟩) fun r24 hi4=> ?_
 dsimp only[si]at hi4
 refine aB (⟨r24.f.s0.l,r24.f.s0.com,r24.f.c0⟩:oN) rfl (by(try dsimp only[kG]);first|omega|exact⟨by omega,by omega,by omega⟩) fun r25 hi5=> ?_
 dsimp only[nu]at hi5
 refine aH ⟨⟩ ?_
 refine aK ?_
 refine aH ⟨⟩ ?_
 refine aK ?_
 refine iI (p:=¬r24.f.s0.com=(r25.o.length:Int)) (fun hc6=> ?_) (fun hc6=> ?_)
 exfalso;omega
 refine aH ⟨⟩ ?_
 refine aK ?_
 refine aB (⟨r24.f.s0.l,r24.f.s0.com,r24.f.c0⟩:oN) rfl (by(try dsimp only[kG]);first|omega|exact⟨by omega,by omega,by omega⟩) fun r26 hi7=> ?_
 dsimp only[nu]at hi7
 refine aP (⟨r26.h,r26.o,r25.h,r25.o⟩:ee) rfl (by(try dsimp only[cW]);first|exact⟨rfl,by omega⟩|exact⟨by assumption,by omega⟩|exact⟨by simp_all,by omega⟩) ?_
 exact hK
 refine aG ?_ ?_
 refine aj (fun r16=> ?_)
 refine iI (p:=dH r16.f∧r16.f.cnt=0∧r16.f.now=0∧r16.f.L.length=0∧r16.f.s0.l.length=0) (fun hi8=> ?_) (fun _=>rfl)
 refine aB (⟨p.h,p.l,r16.f,(0:Int)⟩:gL) rfl (by(try dsimp only[gT]);obtain⟨z0,z1,z2,z3,z4⟩:=hi8;exact⟨z0,by omega,by omega,by omega,by omega,by omega,by omega,by omega,by omega,by omega⟩) fun r17 hi9=> ?_
 dsimp only[uP]at hi9
 refine aB (⟨r17.f⟩:nM) rfl (by(try dsimp only[pc]);obtain⟨z0,z1,z2,z3,z4,z5,z6⟩:=hi9;exact⟨z0,by omega,by omega,by omega,by omega⟩) fun r18 hi10=> ?_
 dsimp only[sg]at hi10
 refine aB (⟨r18.f.s0.l,r18.f.s0.com,r18.f.c0,r18.f.c1⟩:oM) rfl (by(try dsimp only[kF]);first|omega|exact⟨by omega,by omega,by omega⟩) fun r19 hi11=> ?_
 dsimp only[nt]at hi11
 refine aH ⟨⟩ ?_
 refine aK ?_
 refine aH ⟨⟩ ?_
 refine aK ?_
 refine iI (p:=¬r18.f.s0.com=(r19.o.length:Int)) (fun hc12=> ?_) (fun hc12=> ?_)
 exfalso;omega
 refine aH ⟨⟩ ?_
 refine aK ?_
 refine aB (⟨r18.f.s0.l,r18.f.s0.com,r18.f.c0,r18.f.c1⟩:oM) rfl (by(try dsimp only[kF]);first|omega|exact⟨by omega,by omega,by omega⟩) fun r20 hi13=> ?_
 dsimp only[nt]at hi13
 refine aP (⟨r20.h,r20.o,r19.h,r19.o⟩:ee) rfl (by(try dsimp only[cW]);first|exact⟨rfl,by omega⟩|exact⟨by assumption,by omega⟩|exact⟨by simp_all,by omega⟩) ?_
 refine aP (⟨(1:Int)⟩:bB) rfl (by(try dsimp only[bh]);omega) ?_
 refine aP (⟨(1:Int)⟩:bB) rfl (by(try dsimp only[bh]);omega) ?_
 refine iI (fun hc14=> ?_) (fun hc14=> ?_)
 exfalso;omega
 refine aP (⟨(1:Int)⟩:bB) rfl (by(try dsimp only[bh]);omega) ?_
 refine aB (⟨r18.f.s1.l,r18.f.s1.com,(0:Int),(0:Int),(1:Int)⟩:rh) rfl (by(try dsimp only[rO]);first|omega|exact⟨by omega,by omega,by omega⟩) fun r21 hi15=> ?_
 dsimp only[uJ]at hi15
 refine aP (⟨r21.h,r21.o,r19.h,r19.o⟩:ee) rfl (by(try dsimp only[cW]);first|exact⟨rfl,by omega⟩|exact⟨by assumption,by omega⟩|exact⟨by simp_all,by omega⟩) ?_
 exact hK
 refine aG ?_ ?_
 refine aj (fun r9=> ?_)
 refine iI (p:=dD r9.f∧r9.f.cnt=0∧r9.f.now=0∧r9.f.L.length=0∧r9.f.s0.l.length=0) (fun hi16=> ?_) (fun _=>rfl)
 refine aB (⟨p.h,p.l,r9.f,(0:Int)⟩:gJ) rfl (by(try dsimp only[gS]);obtain⟨z0,z1,z2,z3,z4⟩:=hi16;exact⟨z0,by omega,by omega,by omega,by omega,by omega,by omega,by omega,by omega,by omega⟩) fun r10 hi17=> ?_
 dsimp only[uO]at hi17
 refine aB (⟨r10.f⟩:nL) rfl (by(try dsimp only[pb]);obtain⟨z0,z1,z2,z3,z4,z5,z6⟩:=hi17;exact⟨z0,by omega,by omega,by omega,by omega⟩) fun r11 hi18=> ?_
 dsimp only[rZ]at hi18
 refine aB (⟨r11.f.s0.l,r11.f.s0.com,r11.f.c0,r11.f.c1,r11.f.c2⟩:oK) rfl (by(try dsimp only[kD]);first|omega|exact⟨by omega,by omega,by omega⟩) fun r12 hi19=> ?_
 dsimp only[nq]at hi19
 refine aH ⟨⟩ ?_
 refine aK ?_
 refine aH ⟨⟩ ?_
 refine aK ?_
 refine iI (p:=¬r11.f.s0.com=(r12.o.length:Int)) (fun hc20=> ?_) (fun hc20=> ?_)
 exfalso;omega
 refine aH ⟨⟩ ?_
 refine aK ?_
 refine aB (⟨r11.f.s0.l,r11.f.s0.com,r11.f.c0,r11.f.c1,r11.f.c2⟩:oK) rfl (by(try dsimp only[kD]);first|omega|exact⟨by omega,by omega,by omega⟩) fun r13 hi21=> ?_
 dsimp only[nq]at hi21
 refine aP (⟨r13.h,r13.o,r12.h,r12.o⟩:ee) rfl (by(try dsimp only[cW]);first|exact⟨rfl,by omega⟩|exact⟨by assumption,by omega⟩|exact⟨by simp_all,by omega⟩) ?_
 refine aP (⟨(1:Int)⟩:bB) rfl (by(try dsimp only[bh]);omega) ?_
 refine aP (⟨(1:Int)⟩:bB) rfl (by(try dsimp only[bh]);omega) ?_
 refine iI (fun hc22=> ?_) (fun hc22=> ?_)
 exfalso;omega
 refine aP (⟨(1:Int)⟩:bB) rfl (by(try dsimp only[bh]);omega) ?_
 refine aB (⟨r11.f.s1.l,r11.f.s1.com,(0:Int),(0:Int),(0:Int),(1:Int)⟩:oL) rfl (by(try dsimp only[kE]);first|omega|exact⟨by omega,by omega,by omega⟩) fun r14 hi23=> ?_
 dsimp only[nr]at hi23
 refine aP (⟨r14.h,r14.o,r12.h,r12.o⟩:ee) rfl (by(try dsimp only[cW]);first|exact⟨rfl,by omega⟩|exact⟨by assumption,by omega⟩|exact⟨by simp_all,by omega⟩) ?_
 refine aP (⟨(2:Int)⟩:bB) rfl (by(try dsimp only[bh]);omega) ?_
 refine aP (⟨(2:Int)⟩:bB) rfl (by(try dsimp only[bh]);omega) ?_
 refine iI (fun hc24=> ?_) (fun hc24=> ?_)
 exfalso;omega
 refine aP (⟨(2:Int)⟩:bB) rfl (by(try dsimp only[bh]);omega) ?_
 refine aB (⟨r11.f.s2.l,r11.f.s2.com,(0:Int),(0:Int),(0:Int),(2:Int)⟩:oL) rfl (by(try dsimp only[kE]);first|omega|exact⟨by omega,by omega,by omega⟩) fun r15 hi25=> ?_
 dsimp only[nr]at hi25
 refine aP (⟨r15.h,r15.o,r12.h,r12.o⟩:ee) rfl (by(try dsimp only[cW]);first|exact⟨rfl,by omega⟩|exact⟨by assumption,by omega⟩|exact⟨by simp_all,by omega⟩) ?_
 exact hK
 refine aj (fun r1=> ?_)
 refine iI (p:=dy r1.f∧r1.f.cnt=0∧r1.f.now=0∧r1.f.L.length=0∧r1.f.s0.l.length=0) (fun hi26=> ?_) (fun _=>rfl)
 refine aB (⟨p.h,p.l,r1.f,(0:Int)⟩:gI) rfl (by(try dsimp only[gR]);obtain⟨z0,z1,z2,z3,z4⟩:=hi26;exact⟨z0,by omega,by omega,by omega,by omega,by omega,by omega,by omega,by omega,by omega⟩) fun r2 hi27=> ?_
 dsimp only[uN]at hi27
 refine aB (⟨r2.f⟩:nK) rfl (by(try dsimp only[pa]);obtain⟨z0,z1,z2,z3,z4,z5,z6⟩:=hi27;exact⟨z0,by omega,by omega,by omega,by omega⟩) fun r3 hi28=> ?_
 dsimp only[rY]at hi28
 refine aB (⟨r3.f.s0.l,r3.f.s0.com,r3.f.c0,r3.f.c1,r3.f.c2,r3.f.c3⟩:oJ) rfl (by(try dsimp only[kC]);first|omega|exact⟨by omega,by omega,by omega⟩) fun r4 hi29=> ?_
 dsimp only[np]at hi29
 refine aH ⟨⟩ ?_
 refine aK ?_
 refine aH ⟨⟩ ?_
 refine aK ?_
 refine iI (p:=¬r3.f.s0.com=(r4.o.length:Int)) (fun hc30=> ?_) (fun hc30=> ?_)
 exfalso;omega
 refine aH ⟨⟩ ?_
 refine aK ?_
 refine aB (⟨r3.f.s0.l,r3.f.s0.com,r3.f.c0,r3.f.c1,r3.f.c2,r3.f.c3⟩:oJ) rfl (by(try dsimp only[kC]);first|omega|exact⟨by omega,by omega,by omega⟩) fun r5 hi31=> ?_
 dsimp only[np]at hi31
 refine aP (⟨r5.h,r5.o,r4.h,r4.o⟩:ee) rfl (by(try dsimp only[cW]);first|exact⟨rfl,by omega⟩|exact⟨by assumption,by omega⟩|exact⟨by simp_all,by omega⟩) ?_
 refine aP (⟨(1:Int)⟩:bB) rfl (by(try dsimp only[bh]);omega) ?_
 refine aP (⟨(1:Int)⟩:bB) rfl (by(try dsimp only[bh]);omega) ?_
 refine iI (fun hc32=> ?_) (fun hc32=> ?_)
 exfalso;omega
 refine aP (⟨(1:Int)⟩:bB) rfl (by(try dsimp only[bh]);omega) ?_
 refine aB (⟨r3.f.s1.l,r3.f.s1.com,(0:Int),(0:Int),(0:Int),(0:Int),(1:Int)⟩:mD) rfl (by(try dsimp only[gQ]);first|omega|exact⟨by omega,by omega,by omega⟩) fun r6 hi33=> ?_
 dsimp only[jo]at hi33
 refine aP (⟨r6.h,r6.o,r4.h,r4.o⟩:ee) rfl (by(try dsimp only[cW]);first|exact⟨rfl,by omega⟩|exact⟨by assumption,by omega⟩|exact⟨by simp_all,by omega⟩) ?_
 refine aP (⟨(2:Int)⟩:bB) rfl (by(try dsimp only[bh]);omega) ?_
 refine aP (⟨(2:Int)⟩:bB) rfl (by(try dsimp only[bh]);omega) ?_
 refine iI (fun hc34=> ?_) (fun hc34=> ?_)
 exfalso;omega
 refine aP (⟨(2:Int)⟩:bB) rfl (by(try dsimp only[bh]);omega) ?_
 refine aB (⟨r3.f.s2.l,r3.f.s2.com,(0:Int),(0:Int),(0:Int),(0:Int),(2:Int)⟩:mD) rfl (by(try dsimp only[gQ]);first|omega|exact⟨by omega,by omega,by omega⟩) fun r7 hi35=> ?_
 dsimp only[jo]at hi35
 refine aP (⟨r7.h,r7.o,r4.h,r4.o⟩:ee) rfl (by(try dsimp only[cW]);first|exact⟨rfl,by omega⟩|exact⟨by assumption,by omega⟩|exact⟨by simp_all,by omega⟩) ?_
 refine aP (⟨(3:Int)⟩:bB) rfl (by(try dsimp only[bh]);omega) ?_
 refine aP (⟨(3:Int)⟩:bB) rfl (by(try dsimp only[bh]);omega) ?_
 refine iI (fun hc36=> ?_) (fun hc36=> ?_)
 exfalso;omega
 refine aP (⟨(3:Int)⟩:bB) rfl (by(try dsimp only[bh]);omega) ?_
 refine aB (⟨r3.f.s3.l,r3.f.s3.com,(0:Int),(0:Int),(0:Int),(0:Int),(3:Int)⟩:mD) rfl (by(try dsimp only[gQ]);first|omega|exact⟨by omega,by omega,by omega⟩) fun r8 hi37=> ?_
 dsimp only[jo]at hi37
 refine aP (⟨r8.h,r8.o,r4.h,r4.o⟩:ee) rfl (by(try dsimp only[cW]);first|exact⟨rfl,by omega⟩|exact⟨by assumption,by omega⟩|exact⟨by simp_all,by omega⟩) ?_
 exact hK
theorem na_seatCalm:aX Tryz.prog 5 0 (be tq Cq):=(cS (f:=5) (k:=0) (lp:=ij) (lf:=600) bD (ay Gw) Me (by rfl) (fun b j x h=>(bZ aff (fun h=>(by cases h)) h)) fun p K h=>UE p K h)
end Go.Proofs.Tryz
namespace Go.Proofs.YtjhpjjbnojbikaaGreat.seatCalm
open Go Go.RowKit Go.Eng Go.Sy Go.ChangeShapes Go.WideShapes Go.ChangeAt
open Go.Proofs.Tryz (Sg)
set_option linter.unusedVariables false
set_option maxRecDepth 100000
theorem afi:rE Tryz.prog 20 28=some [3,3,3,3]:=by kernel_rfl
theorem aiu {H:Type} {en:TypeId×Value→H} {W:World} {fuel:Nat} {cs:List Value} {x:DataW H×List MemPlace} (h:DataW.trod en Tryz.prog W 0 (fun _=>true) true fuel 22 cs=some x):
  ∃(ao:Option Addr) (cap:Nat) (t:List Sg),cs=[.slice ao t.length cap]∧RdF (fun x=>(Go.Proofs.Tryz.encS x).map bQ) 4 (GS.of W).M ao cap t:=by
 rcases Go.Deep.open_slice Tryz.underlying22 h with⟨rfl,_⟩|⟨a,len,cap,m,n,D,Pl,rfl,_,hl,hm,rfl,_,hel⟩
 ·exact⟨none,0,[],rfl,RdF.nil _ _ _ _⟩
 ·obtain⟨t,ht,hp⟩:=VY (p:=fun i (x:Sg)=>W.cells? 0 (a.add (i*4)) 4=some ((Go.Proofs.Tryz.encS x).map bQ)) len (fun i hi=>by
   obtain⟨cs2,h1,h2⟩:=hel i (by first|omega|(simp;omega))
   obtain⟨hlen,hleaf⟩:=XL 20 28 _ afi _ _ _ h2
   obtain⟨c0,c1,c2,c3,rfl⟩:∃c0 c1 c2 c3,cs2=[c0,c1,c2,c3]:=by
    match cs2,hlen with
    |[c0,c1,c2,c3],_=>exact⟨c0,c1,c2,c3,rfl⟩
   obtain⟨z0,rfl,w0⟩:=AF Tryz.underlying3 (hleaf 0 _ _ rfl rfl)
   obtain⟨z1,rfl,w1⟩:=AF Tryz.underlying3 (hleaf 1 _ _ rfl rfl)
   obtain⟨z2,rfl,w2⟩:=AF Tryz.underlying3 (hleaf 2 _ _ rfl rfl)
   obtain⟨z3,rfl,w3⟩:=AF Tryz.underlying3 (hleaf 3 _ _ rfl rfl)
   exact⟨⟨z0,z1,z2,z3⟩,h1⟩)
  subst ht
  exact⟨some a,_,t,rfl,aiq (base:=0) hl hm (by decide) (fun _=>rfl) hp⟩
theorem ajT {M:oD} {ao:Option Addr} {cap:Nat} {t:List Sg} (h:RdF (fun x=>(Go.Proofs.Tryz.encS x).map bQ) 4 M ao cap t):OkP M (.imm (.slice ao t.length cap) 4 Sg t Go.Proofs.Tryz.encS):=
 .imm ao cap rfl h.le h.cap (by decide) h.addr (fun x _=>rfl) (fun x _ p hp=>by
  simp only[Go.Proofs.Tryz.encS,List.mem_cons,List.not_mem_nil,or_false]at hp
  rcases hp with rfl|rfl|rfl|rfl<;>exact .sint _ _) h.row
theorem own:ownKnob Tryz.prog.godebug=none:=by kernel_rfl
theorem afm:laidOutB Tryz.prog=true:=by kernel_rfl
theorem ajP (a0:Int) (o1:Option Addr) (k1:Nat) (t1:List Sg) (w:World) (h1:RdF (fun x=>(Go.Proofs.Tryz.encS x).map bQ) 4 (GS.of w).M o1 k1 t1):Calls Tryz.prog 5 #[.int .i64 a0,.slice o1 t1.length k1] w (Ret (GS.of w) [] fun _ v=>v= .bool true):=by
 let K:AV→T→Nat→Bool:=fun v _ _=>aF (v= .bool true)
 have hE:fu ⟨fun _=>.bool true,(GS.of w).M⟩:=⟨fun i=>rfl,trivial⟩
 have hd:aO ⟨fun _=>.bool true,(GS.of w).M⟩ (fun _=>none) [.sy (.int 0 a0),.sy (.imm (.slice o1 t1.length k1) 4 Sg t1 Go.Proofs.Tryz.encS)]=some [.int .i64 a0,.slice o1 t1.length k1]:=by
  simp only[aO,den,bx,qC (E:=⟨fun _=>.bool true,(GS.of w).M⟩) (ajT h1),bQ,dv]
 refine Tryz.na_seatCalm [.sy (.int 0 a0),.sy (.imm (.slice o1 t1.length k1) 4 Sg t1 Go.Proofs.Tryz.encS)] [.int .i64 a0,.slice o1 t1.length k1] ⟨fun _=>.bool true,(GS.of w).M⟩ (fun _=>none) (GS.of w) [] .leaf 0 w K _ hE (Sim.start rfl (Holds.start w)) hd ?_ ?_
 ·exact aH ⟨a0,.slice o1 t1.length k1,t1⟩ (bT rfl (prB_true.2 rfl))
 ·intro v M' nx' E' ρ' w' z hk h1 h2 h3 h4 h5
  obtain⟨G',g1,g2,g3⟩:=h4.holds
  refine⟨z,G',rfl,g1,g2,?_⟩
  have:=prB_true.1 hk
  subst this
  simpa[den] using h5.symm
set_option maxRecDepth 100000 in
theorem aiU (os:Os) (started:os.Started) (H:Type) (enc:TypeId×Value→H):
  ReturnsInHanded {} Tryz.checked os 5 .any (Rows.seatCalmSpec.pre6 enc Tryz.prog Tryz.f5 Rows.seatCalmRow.domain false) (Rows.seatCalmSpec.post enc Tryz.prog Tryz.f5 false true false false):=by
 refine returnsInHanded_of_change (C:=Tryz.checked) own started (by kernel_rfl) Tryz.func5
  (ChangeSpec.witness6 (enc:=enc) (C:=Tryz.checked) false ⟨#[],#[.int .i64 0,.slice none 0 0],[]⟩ 8 (by kernel_rfl) (by kernel_rfl) (by kernel_rfl) (by kernel_rfl)) ?_
 intro W base args ds gs before hval0 hW hcnd _
 have hval:∀(j:Nat) t v,Tryz.f5.params[j]?=some t→args[j]?=some v→Value.okWide Tryz.prog W .any base t v:=hval0
 have hW':=hW
 obtain⟨p,q,hA0,hV,rfl,hfz,hnd⟩:=hW
 have hA:DataW.TrodAll enc Tryz.prog W 0 (fun _=>true) true Tryz.f5.params.toList args.toList ds p:=hA0
 rw[Tryz.params5]at hA hval
 obtain⟨v0,vs0,d0,ds0,p0,q0,hargs,rfl,rfl,h0,r0⟩:=trodAll_cons hA
 obtain⟨v1,vs1,d1,ds1,p1,q1,rfl,rfl,rfl,h1,r1⟩:=trodAll_cons r0
 obtain⟨rfl,rfl,rfl⟩:=trodAll_nil r1
 obtain rfl:args= #[v0,v1]:=by cases args;simp_all
 obtain⟨rfl,rfl⟩:=trodVars_none hV
 obtain⟨a0,rfl,rfl,rfl,w0⟩:=open_int Tryz.underlying3 (hval 0 3 v0 rfl rfl) h0
 obtain⟨b1,len1,cap1,rfl⟩:=okWide_slice Tryz.underlying22 (hval 1 22 v1 rfl rfl)
 have j1:=h1
 have lt1:∀x∈p1,x.block<W.heap.size:=by obtain⟨m,hm⟩:=j1;exact DataW.trod_lt m _ _ _ hm
 obtain⟨fuel1,hf1⟩:=h1
 obtain⟨ao1,ca1,t1,hc1,hr1⟩:=aiu hf1
 simp only[Value.cells,List.cons.injEq,Value.slice.injEq,and_true]at hc1
 obtain⟨rfl,rfl,rfl⟩:=hc1
 clear hA0 hval0
 simp only[List.append_nil]at hW'
 refine(ajP a0 b1 cap1 t1 W hr1).mono fun e W2 ⟨v,G2,he,hG,hh,hv⟩=> ?_
 subst he;subst hv
 have bel:Below W.heap.size W W2:=Holds.below hG hh
 exact⟨_,rfl,_,_,_,[],_,[],hW',trodAll_mk1 (shut_bool Tryz.underlying4 _),(trodAll_cons_mk (shut_int Tryz.underlying3 w0) (trodAll_cons_mk (Below.trod afm (by kernel_rfl) (of_decide_eq_true (by kernel_rfl)) j1 bel lt1) trodAll_mk0)),rfl,bel.frame _,fun h=>by cases h⟩
theorem ajS:Rows.seatCalmRow.holds Tryz.pinned (OpenSpec.ofChange Rows.seatCalmSpec):=
 OpenClaim.holds_of_wide 5 Tryz.f5 rfl rfl rfl rfl rfl rfl rfl ⟨rfl,rfl,rfl,rfl,rfl⟩ rfl rfl rfl rfl rfl (by kernel_rfl) Tryz.func5 (by kernel_rfl)
  (of_decide_eq_true (by kernel_rfl)) (by unfold Func.isWrapper;first|(rw[if_pos (by decide+kernel)];kernel_rfl)|(rw[if_neg (by decide+kernel)];exact⟨rfl,rfl⟩))
  (fun os started H enc _=>aiU os started H enc)
theorem holds:Rows.SeatCalmSaid:=ajS
#print axioms holds
end Go.Proofs.YtjhpjjbnojbikaaGreat.seatCalm
